/- what is read of bytes. Plain: no program. -/
import Derived.Test.YtbmpjphemjponaaWp
import Derived.Test.YtbmpjphemjponaaFp
set_option linter.unusedSimpArgs false
set_option linter.unusedVariables false
namespace Go.Proofs.Ytbmpjphemjponaa
open Go.RowKit

/-- a reader: what is left, and whether it is bad. -/
abbrev Rst := List UInt8 × Bool
def rdN (k : Nat) (s : Rst) : Nat × Rst := if s.2 = true ∨ s.1.length < k then (0, (s.1, true)) else (num (s.1.take k), (s.1.drop k, false))
def rdV (s : Rst) : Vl × Rst := (⟨(rdN 1 s).1, (rdN 8 (rdN 1 s).2).1⟩, (rdN 8 (rdN 1 s).2).2)
/-- so many, one behind another, as long as it is not bad. -/
def rdL {α : Type} (f : Rst → α × Rst) : Nat → Rst → List α → List α × Rst
  | 0, s, acc => (acc, s)
  | n + 1, s, acc => if s.2 = true then (acc, s) else rdL f n (f s).2 (acc ++ [(f s).1])
def rdVs (s : Rst) : List Vl × Rst := rdL rdV (rdN 1 s).1 (rdN 1 s).2 []
def rdI (s : Rst) : Ins × Rst :=
  let o := rdN 1 s
  let a := rdN 1 o.2
  if o.1 = 1 then (⟨o.1, a.1, (rdV a.2).1⟩, (rdV a.2).2) else (⟨o.1, a.1, Vl.zero⟩, a.2)
def rdNd (s : Rst) : Nd × Rst :=
  let c := rdL rdI (rdN 2 s).1 (rdN 2 s).2 []
  let k := rdN 1 c.2
  let a := rdN 1 k.2
  let x := rdN 2 a.2
  let y := rdN 2 x.2
  (⟨c.1, k.1, a.1, x.1, y.1⟩, y.2)
def rdBd (s : Rst) : Bd × Rst :=
  let l := rdVs s
  let k := rdN 1 l.2
  let n := rdL rdNd (rdN 2 k.2).1 (rdN 2 k.2).2 []
  (⟨l.1, k.1, n.1⟩, n.2)
def rdCd (s : Rst) : Cd × Rst :=
  let l := rdVs s
  let k := rdN 1 l.2
  let n := rdL rdBd (rdN 1 k.2).1 (rdN 1 k.2).2 []
  (⟨l.1, k.1, n.1⟩, n.2)
def readL (b : List UInt8) : Option Cd := if (rdCd (b, false)).2 = ([], false) ∧ chk (rdCd (b, false)).1 = 0 then some (rdCd (b, false)).1 else none
theorem rdN_lt (k : Nat) (s : Rst) : (rdN k s).1 < 256 ^ k := by
  unfold rdN
  split
  · exact Nat.pow_pos (by omega)
  · rename_i h
    have h2 : ¬ s.1.length < k := fun e => h (.inr e)
    have := num_lt (s.1.take k)
    rwa [List.length_take, Nat.min_eq_left (by omega)] at this
theorem rdN_bad {k : Nat} {s : Rst} (h : s.2 = true) : rdN k s = (0, (s.1, true)) := by unfold rdN; rw [if_pos (.inl h)]
theorem rdN_few {k : Nat} {s : Rst} (h : s.1.length < k) : rdN k s = (0, (s.1, true)) := by unfold rdN; rw [if_pos (.inr h)]
theorem rdN_ok {k : Nat} {s : Rst} (h : s.2 = false) (h2 : k ≤ s.1.length) : rdN k s = (num (s.1.take k), (s.1.drop k, false)) := by unfold rdN; rw [if_neg (by rw [h]; simp; omega)]
theorem rdV_in (s : Rst) : VlIn (rdV s).1 := by
  have h1 := rdN_lt 1 s; have h2 := rdN_lt 8 (rdN 1 s).2
  unfold VlIn rdV
  dsimp only
  refine ⟨⟨by omega, by omega⟩, by omega, ?_⟩
  have : (256 : Nat) ^ 8 = 18446744073709551616 := by decide
  omega
theorem rdI_in (s : Rst) : InIn (rdI s).1 := by
  have h1 := rdN_lt 1 s
  unfold InIn rdI
  dsimp only
  split
  · exact ⟨⟨by dsimp only; omega, by dsimp only; omega⟩, rdV_in _⟩
  · exact ⟨⟨by dsimp only; omega, by dsimp only; omega⟩, by show VlIn Vl.zero; exact ⟨⟨by decide, by decide⟩, by decide, by decide⟩⟩
theorem rdL_all {α : Type} (f : Rst → α × Rst) (P : α → Prop) (hf : ∀ s, P (f s).1) : ∀ (n : Nat) (s : Rst) (acc : List α), (∀ x ∈ acc, P x) → (∀ x ∈ (rdL f n s acc).1, P x)
  | 0, s, acc, h => h
  | n + 1, s, acc, h => by
    rw [rdL]
    split
    · exact h
    · exact rdL_all f P hf n _ _ (fun x hx => by
        rcases List.mem_append.1 hx with hx | hx
        · exact h x hx
        · simp only [List.mem_singleton] at hx; rw [hx]; exact hf s)
theorem rdL_len {α : Type} (f : Rst → α × Rst) : ∀ (n : Nat) (s : Rst) (acc : List α), (rdL f n s acc).1.length ≤ acc.length + n
  | 0, s, acc => by simp [rdL]
  | n + 1, s, acc => by
    rw [rdL]
    split
    · dsimp only; omega
    · have := rdL_len f n (f s).2 (acc ++ [(f s).1])
      rw [List.length_append, List.length_singleton] at this; omega
theorem getD_mem {α : Type} [Inhabited α] {l : List α} {i : Nat} (h : i < l.length) : l.getD i default ∈ l := by
  rw [List.getD_eq_getElem?_getD, List.getElem?_eq_getElem h]; exact List.getElem_mem h
theorem rdVs_in (s : Rst) : VsIn (rdVs s).1 ∧ (rdVs s).1.length ≤ 255 := by
  have h := rdL_all rdV VlIn rdV_in (rdN 1 s).1 (rdN 1 s).2 [] (by simp)
  have h2 := rdL_len rdV (rdN 1 s).1 (rdN 1 s).2 []
  have h3 := rdN_lt 1 s
  refine ⟨fun i hi => h _ (getD_mem hi), ?_⟩
  unfold rdVs
  simp only [List.length_nil] at h2
  omega
theorem rdNd_in (s : Rst) : IsIn (rdNd s).1.code ∧ (rdNd s).1.code.length ≤ 65535 := by
  have h := rdL_all rdI InIn rdI_in (rdN 2 s).1 (rdN 2 s).2 [] (by simp)
  have h2 := rdL_len rdI (rdN 2 s).1 (rdN 2 s).2 []
  have h3 := rdN_lt 2 s
  refine ⟨fun i hi => h _ (getD_mem hi), ?_⟩
  unfold rdNd
  simp only [List.length_nil] at h2 ⊢
  omega
theorem rdBd_in (s : Rst) : (BdIn (rdBd s).1 ∧ (rdBd s).1.locals.length ≤ 255) ∧ ((rdBd s).1.nodes.length ≤ 65535 ∧ ∀ i, i < (rdBd s).1.nodes.length → ((rdBd s).1.nodes.getD i default).code.length ≤ 65535) := by
  have h := rdL_all rdNd (fun n => IsIn n.code ∧ n.code.length ≤ 65535) rdNd_in (rdN 2 (rdN 1 (rdVs s).2).2).1 (rdN 2 (rdN 1 (rdVs s).2).2).2 [] (by simp)
  have h2 := rdL_len rdNd (rdN 2 (rdN 1 (rdVs s).2).2).1 (rdN 2 (rdN 1 (rdVs s).2).2).2 []
  have h3 := rdN_lt 2 (rdN 1 (rdVs s).2).2
  have hv := rdVs_in s
  unfold rdBd
  simp only [List.length_nil] at h2 ⊢
  exact ⟨⟨⟨hv.1, fun i hi => (h _ (getD_mem hi)).1⟩, hv.2⟩, by omega, fun i hi => (h _ (getD_mem hi)).2⟩
theorem rdCd_in (s : Rst) : CdIn (rdCd s).1 ∧ (rdCd s).1.shared.length ≤ 255 ∧ (rdCd s).1.bodies.length ≤ 255 ∧ ∀ i, i < (rdCd s).1.bodies.length → ((rdCd s).1.bodies.getD i default).locals.length ≤ 255 ∧ ((rdCd s).1.bodies.getD i default).nodes.length ≤ 65535 ∧ ∀ j, j < ((rdCd s).1.bodies.getD i default).nodes.length → (((rdCd s).1.bodies.getD i default).nodes.getD j default).code.length ≤ 65535 := by
  have h := rdL_all rdBd (fun b => (BdIn b ∧ b.locals.length ≤ 255) ∧ (b.nodes.length ≤ 65535 ∧ ∀ i, i < b.nodes.length → (b.nodes.getD i default).code.length ≤ 65535)) rdBd_in (rdN 1 (rdN 1 (rdVs s).2).2).1 (rdN 1 (rdN 1 (rdVs s).2).2).2 [] (by simp)
  have h2 := rdL_len rdBd (rdN 1 (rdN 1 (rdVs s).2).2).1 (rdN 1 (rdN 1 (rdVs s).2).2).2 []
  have h3 := rdN_lt 1 (rdN 1 (rdVs s).2).2
  have hv := rdVs_in s
  unfold rdCd
  simp only [List.length_nil] at h2 ⊢
  exact ⟨⟨hv.1, fun i hi => (h _ (getD_mem hi)).1.1⟩, hv.2, by omega, fun i hi => ⟨(h _ (getD_mem hi)).1.2, (h _ (getD_mem hi)).2.1, (h _ (getD_mem hi)).2.2⟩⟩
theorem u64_or (a c : Nat) (ha : a < 72057594037927936) (hc : c < 256) : bits .or .u64 ((a : Int) * 256) (c : Int) = ((a * 256 + c : Nat) : Int) := by
  show IntKind.u64.wrap ((BitVec.ofInt 64 ((a : Int) * 256) ||| BitVec.ofInt 64 (c : Int)).toNat : Int) = _
  have e1 : ((a : Int) * 256) = ((a * 256 : Nat) : Int) := by simp
  rw [e1, BitVec.ofInt_natCast, BitVec.ofInt_natCast, BitVec.toNat_or, BitVec.toNat_ofNat, BitVec.toNat_ofNat, Nat.mod_eq_of_lt (by omega), Nat.mod_eq_of_lt (by omega)]
  have e2 : a * 256 ||| c = a * 256 + c := by
    have := Nat.shiftLeft_add_eq_or_of_lt (b := c) (i := 8) (by omega) a
    rw [Nat.shiftLeft_eq] at this
    exact this.symm
  rw [e2]
  simp [IntKind.wrap, IntKind.bits, IntKind.signed]; omega
theorem num_take (l : List UInt8) (k : Nat) (h : k < l.length) : num (l.take (k + 1)) = num (l.take k) * 256 + (l.getD k 0).toNat := by
  rw [List.take_succ_eq_append_getElem h, num_snoc, List.getD_eq_getElem?_getD, List.getElem?_eq_getElem h]; rfl
theorem num_small (l : List UInt8) (k : Nat) (h : k < 8) : num (l.take k) < 72057594037927936 := by
  refine Nat.lt_of_lt_of_le (num_lt _) ?_
  refine Nat.le_trans (Nat.pow_le_pow_right (by omega) (show (l.take k).length ≤ 7 by simp; omega)) (by decide)
theorem num_big (l : List UInt8) (h : l.length ≤ 8) : num l < 18446744073709551616 := by
  refine Nat.lt_of_lt_of_le (num_lt _) ?_
  exact Nat.le_trans (Nat.pow_le_pow_right (by omega) h) (by decide)
end Go.Proofs.Ytbmpjphemjponaa
