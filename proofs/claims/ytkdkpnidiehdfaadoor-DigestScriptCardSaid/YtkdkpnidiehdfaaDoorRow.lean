/-
  From a walk of a law to its row and its card: the parts that all laws of this seat share.
-/
import Derived.Test.YtkdkpnidiehdfaaDoorRows
import Derived.Test.YtkdkpnidiehdfaaDoorTie
import Derived.Test.YtkdkpnidiehdfaaDoorCards
import Derived.Test.YtkdkpnidiehdfaaDoorLa
import Derived.WalkKit
import Derived.ProofKit
import Derived.OpenShut
import Derived.ShutString
import Derived.ChangeOld
import Derived.LaidHandle
import Derived.LaidMore
import Derived.MakeChecks
import Derived.Lib.LaidTab
import Derived.Deep.Slices
import Derived.SizedLaws
import Derived.Test.YtkdkpnidiehdfaaDoorZs
import Derived.Test.YtkdkpnidiehdfaaDoorLi
set_option linter.unusedSimpArgs false
set_option linter.unusedVariables false
namespace Go.Proofs.YtkdkpnidiehdfaaDoor
open Go.ChangeShapes Go.WideShapes Go.ChangeAt Go.RowKit

theorem own : ownKnob Tryd.prog.godebug = none := by kernel_rfl
theorem laidOut : laidOutB Tryd.prog = true := by kernel_rfl
abbrev laid1 : List (String × DataW Unit) := [("assize/digest.k", Rows.laid_assize_digest_k)]
theorem door_met (os : Os) (args : Array Value) : laidMetH Tryd.prog laid1 ((World.doorLaid Tryd.prog 14 os).forCall (fun _ _ => 0) ⟨#[], args, []⟩).memory :=
  laidMetH_of_parts3 (fuel := 8) (laidMet_of_run' 8 (by kernel_rfl) (by kernel_rfl)) (by kernel_rfl) (by kernel_rfl)
theorem kmem_of_laid {W : World} (h : laidMetH Tryd.prog laid1 W) : KMem W := by
  rw [MakeChecks.laidMetH_plain _ _ _ (by kernel_rfl)] at h
  have e0 : (Rows.laid_assize_digest_k : DataW Unit) = Lib.tabData .u32 (kTab.map fun x => (x.toNat : Int)) := by kernel_rfl
  unfold laid1 at h
  rw [e0] at h
  have hT := Lib.tabIs_of_head (P := Tryd.prog) (name := "assize/digest.k") (k := .u32) (zs := kTab.map fun x => (x.toNat : Int)) (rest := []) (g := 0) (t := 101) (e := 30) (n := 64)
    (by kernel_rfl) (by kernel_rfl) Tryd.underlying101 Tryd.underlying30 (by kernel_rfl) (by kernel_rfl) h
  intro t ht
  have hlen : kTab.length = 64 := by decide
  have := hT.cell (g := 0) (by kernel_rfl) t (by simp [hlen]; exact ht)
  rw [this]
  simp [List.getD_eq_getElem?_getD, hlen, ht]

/-- a slice of bytes that came in. -/
theorem bytes_of_trod {H : Type} {enc : TypeId × Value → H} {W : World} {a : Option Addr} {len cap : Nat} {d : DataW H} {p : List MemPlace} (h : DataW.Trod enc Tryd.prog W 0 (fun _ => true) true 22 (.slice a len cap) d p) :
    ∃ l : List UInt8, l.length = len ∧ Bs W W.heap.size a l ∧ (a = none → l = []) := by
  obtain ⟨fuel, hf⟩ := h
  rcases open_ints Tryd.underlying22 Tryd.underlying5 (by kernel_rfl) hf with ⟨hcs, _⟩ | ⟨x, l, c, zs, hcs, _, hl, hm, hz, _, hcell, hwz⟩
  · simp [Value.cells] at hcs
    obtain ⟨rfl, rfl, rfl⟩ := hcs
    exact ⟨[], rfl, Bs.nil _ _ _, fun _ => rfl⟩
  · simp [Value.cells] at hcs
    obtain ⟨rfl, rfl, rfl⟩ := hcs
    have hz' : zs.length = cap := by simpa using hz
    have key : ∀ i, i < len → W.cell? (x.add i) = some (.int .u8 (((zs.getD i 0).toNat.toUInt8).toNat : Int)) := by
      intro i hi
      rw [hcell i (by omega)]
      have hw := hwz (zs.getD i 0) (by
        rw [List.getD_eq_getElem?_getD, List.getElem?_eq_getElem (by omega)]; simp)
      have hb : 0 ≤ zs.getD i 0 ∧ zs.getD i 0 ≤ 255 := bounds_u8 hw
      have e : (((zs.getD i 0).toNat.toUInt8).toNat : Int) = zs.getD i 0 := by
        simp only [Nat.toUInt8, UInt8.toNat_ofNat']
        omega
      rw [e]
    refine ⟨(List.range len).map fun i => (zs.getD i 0).toNat.toUInt8, by simp, ?_, fun h => by cases h⟩
    intro j hj
    have hj' : j < len := by simpa using hj
    obtain ⟨b, off, spot⟩ := x
    have hc := key j hj'
    have hc0 := key 0 (by omega)
    have hspot : spot = none := by simpa [Addr.add] using World.cell?_spot hc0
    subst hspot
    have hadd : (⟨b, off, none⟩ : Addr).add j = ⟨b, off + j, none⟩ := by unfold Addr.add; split <;> simp_all
    rw [hadd] at hc
    refine ⟨b, off, rfl, World.block_lt_of_cell? _ _ hc, ?_⟩
    rw [hc]
    simp [List.getD_eq_getElem?_getD, hj']


theorem slice_cap {H : Type} {enc : TypeId × Value → H} {W : World} {a : Option Addr} {len cap : Nat} {d : DataW H} {p : List MemPlace} (h : DataW.Trod enc Tryd.prog W 0 (fun _ => true) true 22 (.slice a len cap) d p) : len ≤ cap := by
  obtain ⟨fuel, hf⟩ := h
  rcases open_ints Tryd.underlying22 Tryd.underlying5 (by kernel_rfl) hf with ⟨hcs, _⟩ | ⟨x, l, c, zs, hcs, _, hl, hm, hz, _, hcell, hwz⟩
  · simp [Value.cells] at hcs
    obtain ⟨rfl, rfl, rfl⟩ := hcs
    exact Nat.le_refl _
  · simp [Value.cells] at hcs
    obtain ⟨rfl, rfl, rfl⟩ := hcs
    exact hl
/-- a slice of numbers that came in. -/
theorem ints_of_trod {H : Type} {enc : TypeId × Value → H} {W : World} {a : Option Addr} {len cap : Nat} {d : DataW H} {p : List MemPlace} (h : DataW.Trod enc Tryd.prog W 0 (fun _ => true) true 60 (.slice a len cap) d p) :
    ∃ z : List Int, z.length = len ∧ Zs W W.heap.size a z := by
  obtain ⟨fuel, hf⟩ := h
  rcases open_ints Tryd.underlying60 Tryd.underlying3 (by kernel_rfl) hf with ⟨hcs, _⟩ | ⟨x, l, c, zs, hcs, _, hl, hm, hz, _, hcell, hwz⟩
  · simp [Value.cells] at hcs
    obtain ⟨rfl, rfl, rfl⟩ := hcs
    exact ⟨[], rfl, fun i hi => by simp at hi⟩
  · simp [Value.cells] at hcs
    obtain ⟨rfl, rfl, rfl⟩ := hcs
    have hz' : zs.length = cap := by simpa using hz
    refine ⟨zs.take len, by simp; omega, fun i hi => ?_⟩
    have hi' : i < len := by simp at hi; omega
    have hc := hcell i (by omega)
    have hc0 := hcell 0 (by omega)
    have hw := hwz (zs.getD i 0) (by
      rw [List.getD_eq_getElem?_getD, List.getElem?_eq_getElem (by omega)]; simp)
    obtain ⟨h1, h2⟩ := bounds_i64 hw
    have e : (zs.take len).getD i 0 = zs.getD i 0 := by simp [List.getD_eq_getElem?_getD, List.getElem?_take, hi']
    rw [e]
    obtain ⟨b, off, spot⟩ := x
    have hspot : spot = none := by simpa [Addr.add] using World.cell?_spot hc0
    subst hspot
    have hadd : (⟨b, off, none⟩ : Addr).add i = ⟨b, off + i, none⟩ := by unfold Addr.add; split <;> simp_all
    rw [hadd] at hc
    exact ⟨b, off, rfl, World.block_lt_of_cell? _ _ hc, hc, h1, h2⟩

set_option maxRecDepth 100000 in
theorem digest_of_trod {H : Type} {enc : TypeId × Value → H} {W : World} {base : Nat} {v : Value} {d : DataW H} {p : List MemPlace} (hv : Value.okWide Tryd.prog W .any base 25 v) (h : DataW.Trod enc Tryd.prog W 0 (fun _ => true) true 25 v d p) :
    ∃ l : List UInt8, l.length = 32 ∧ v = dg l := by
  unfold Value.okWide at hv
  have hu := Tryd.underlying25
  generalize Tryd.prog.underlying 25 = u at hv hu
  subst hu
  obtain ⟨cs, rfl, hsz, _⟩ := hv
  have hcs : cs.size = 32 := by rw [hsz]; kernel_rfl
  obtain ⟨fuel, hf⟩ := h
  obtain ⟨xs, m, _, _, hl, hxl, hx⟩ := DataW.trod_array Tryd.underlying25 hf
  have he : Tryd.prog.cellsOf 5 = 1 := by kernel_rfl
  have key : ∀ i, i < 32 → ∃ c : UInt8, cs[i]? = some (.int .u8 (c.toNat : Int)) := by
    intro i hi
    have h1 := hx i hi
    rw [List.getElem?_eq_getElem (by omega), he] at h1
    obtain ⟨n, h2, _, hw⟩ := DataW.trod_int Tryd.underlying5 h1
    have h3 : cs[i]? = some (.int .u8 n) := by
      have := congrArg (·[0]?) h2
      simpa [Value.cells, List.getElem?_take, List.getElem?_drop] using this
    have hb : 0 ≤ n ∧ n ≤ 255 := bounds_u8 hw
    refine ⟨n.toNat.toUInt8, ?_⟩
    rw [h3]
    have e : ((n.toNat.toUInt8).toNat : Int) = n := by
      simp only [Nat.toUInt8, UInt8.toNat_ofNat']; omega
    rw [e]
  let f : Nat → UInt8 := fun i => match cs[i]? with | some (.int _ n) => n.toNat.toUInt8 | _ => 0
  refine ⟨(List.range 32).map f, by simp, ?_⟩
  unfold dg
  congr 1
  apply Array.ext
  · simp [bcells, hcs]
  · intro i h1 h2
    obtain ⟨c, hc⟩ := key i (by omega)
    have hf : f i = c := by simp only [f, hc]; simp
    have hci : cs[i] = .int .u8 (c.toNat : Int) := by
      rw [Array.getElem?_eq_getElem h1] at hc; exact Option.some.inj hc
    rw [hci]
    simp [bcells, hf]

theorem addr_add (b off i : Nat) : (⟨b, off, none⟩ : Addr).add i = ⟨b, off + i, none⟩ := by unfold Addr.add; split <;> simp_all
theorem weightsAll_mem {H : Type} {P : Program} {e : TypeId} : ∀ {l : List (DataW H)} {d : DataW H}, d ∈ l → (DataW.weightsAll P e l).all (· ≤ reachBytes) = true → (d.weights P e).all (· ≤ reachBytes) = true
  | [], _, h, _ => by simp at h
  | x :: l, d, h, ha => by
    simp only [DataW.weightsAll, List.all_append, Bool.and_eq_true] at ha
    rcases List.mem_cons.1 h with rfl | h
    · exact ha.1
    · exact weightsAll_mem h ha.2
/-- a slice of bytes that came in, and its weight. -/
theorem bytes_of_cell {H : Type} {enc : TypeId × Value → H} {W : World} {n : Nat} {V : Value} {d : DataW H} {p : List MemPlace} (h : DataW.trod enc Tryd.prog W 0 (fun _ => true) true n 22 [V] = some (d, p)) (hw : (d.weights Tryd.prog 22).all (· ≤ reachBytes) = true) :
    ∃ (l : List UInt8) (a : Option Addr) (c : Nat), V = .slice a l.length c ∧ Bs W W.heap.size a l ∧ (a = none → l = []) ∧ l.length ≤ 140737488351232 := by
  rcases open_ints Tryd.underlying22 Tryd.underlying5 (by kernel_rfl) h with ⟨hcs, hx⟩ | ⟨x, l, c, zs, hcs, _, hl, hm, hz, hx, hcell, hwz⟩
  · simp at hcs
    subst hcs
    exact ⟨[], none, 0, rfl, Bs.nil _ _ _, fun _ => rfl, by simp⟩
  · simp at hcs
    subst hcs
    obtain ⟨l', h1, h2, h3⟩ := bytes_of_trod (enc := enc) (W := W) (a := some x) (len := l) (cap := c) ⟨n, by simpa [Value.cells] using h⟩
    subst h1
    refine ⟨l', _, _, rfl, h2, h3, ?_⟩
    have hd : d = .slice (lits .u8 (zs.take l'.length)) (lits .u8 (zs.drop l'.length)) := congrArg Prod.fst hx
    rw [hd] at hw
    have hb : Tryd.prog.bytesOf 5 = 1 := by kernel_rfl
    have hu := Tryd.underlying22
    unfold DataW.weights at hw
    generalize Tryd.prog.underlying 22 = u at hw hu
    subst hu
    simp only [List.all_cons, Bool.and_eq_true, decide_eq_true_eq, hb, Nat.mul_one] at hw
    have h4 := hw.1
    simp [lits] at h4
    have hz' : zs.length = c := by simpa using hz
    have : reachBytes = 140737488351232 := by decide
    omega
set_option maxRecDepth 100000 in
theorem lists_of_trod {H : Type} {enc : TypeId × Value → H} {W : World} {a : Option Addr} {len cap : Nat} {d : DataW H} {p : List MemPlace} (h : DataW.Trod enc Tryd.prog W 0 (fun _ => true) true 46 (.slice a len cap) d p) (hw : (d.weights Tryd.prog 46).all (· ≤ reachBytes) = true) :
    ∃ ls : List (List UInt8), ls.length = len ∧ Ls W W.heap.size a ls ∧ (ls.length ≤ 140737488351232 ∧ ∀ l ∈ ls, l.length ≤ 140737488351232) := by
  obtain ⟨fuel, hf⟩ := h
  have hc22 : Tryd.prog.cellsOf 22 = 1 := by kernel_rfl
  rcases Deep.open_slice1 Tryd.underlying46 hc22 hf with ⟨hcs, hx⟩ | ⟨x, l, c, m, n, V, D, Pl, hcs, _, hl, hm, hmm, hx, hel⟩
  · simp [Value.cells] at hcs
    obtain ⟨rfl, rfl, rfl⟩ := hcs
    exact ⟨[], rfl, fun i hi => by simp at hi, by simp, by simp⟩
  · simp [Value.cells] at hcs
    obtain ⟨rfl, rfl, rfl⟩ := hcs
    have hm' : m = cap := by simpa using hmm
    subst hm'
    have hd : d = .slice ((List.range len).map D) ((List.range (m - len)).map fun j => D (len + j)) := congrArg Prod.fst hx
    rw [hd] at hw
    have hb : Tryd.prog.bytesOf 22 = 24 := by kernel_rfl
    have hu := Tryd.underlying46
    unfold DataW.weights at hw
    generalize Tryd.prog.underlying 46 = u at hw hu
    subst hu
    simp only [List.all_cons, List.all_append, Bool.and_eq_true, decide_eq_true_eq, hb] at hw
    have hlen : len ≤ 140737488351232 := by
      have h4 := hw.1
      simp at h4
      have : reachBytes = 140737488351232 := by decide
      omega
    have key : ∀ i, i < len → ∃ y : List UInt8 × Option Addr × Nat, W.cell? (x.add i) = some (.slice y.2.1 y.1.length y.2.2) ∧ Bs W W.heap.size y.2.1 y.1 ∧ (y.2.1 = none → y.1 = []) ∧ y.1.length ≤ 140737488351232 := by
      intro i hi
      obtain ⟨h1, h2⟩ := hel i (by omega)
      have hwi := weightsAll_mem (d := D i) (by simp; exact ⟨i, hi, rfl⟩) hw.2.1
      obtain ⟨l, a, c, hV, h3, h4, h5⟩ := bytes_of_cell h2 hwi
      exact ⟨(l, a, c), by rw [h1, hV], h3, h4, h5⟩
    obtain ⟨f, hf'⟩ := Deep.choose_lt key
    refine ⟨(List.range len).map fun i => (f i).1, by simp, ?_, by simpa using hlen, ?_⟩
    · intro i hi
      have hi' : i < len := by simpa using hi
      obtain ⟨h1, h2, h3, h4⟩ := hf' i hi'
      obtain ⟨b, off, spot⟩ := x
      have h0 := (hf' 0 (by omega)).1
      have hspot : spot = none := by simpa [Addr.add] using World.cell?_spot h0
      subst hspot
      rw [addr_add] at h1
      have e : ((List.range len).map fun i => (f i).1).getD i [] = (f i).1 := by rw [List.getD_eq_getElem?_getD, List.getElem?_map, List.getElem?_range hi']; rfl
      rw [e]
      exact ⟨b, off, rfl, World.block_lt_of_cell? _ _ h1, _, _, h1, h2, h3⟩
    · intro l hl
      simp only [List.mem_map, List.mem_range] at hl
      obtain ⟨i, hi, rfl⟩ := hl
      exact (hf' i hi).2.2.2
end Go.Proofs.YtkdkpnidiehdfaaDoor
