/-
  'string(b)' of a slice of bytes; 'make([]T, n)'. Over any program.
-/
import Derived.Test.YtkdkpnidiehdfaaDoorApp
import Derived.Laws.CopyOwn
set_option linter.unusedSimpArgs false
set_option linter.unusedVariables false
namespace Go.Proofs.YtkdkpnidiehdfaaDoor
open Go.RowKit

def str (l : List UInt8) : ByteArray := ⟨l.toArray⟩
theorem str_size (l : List UInt8) : (str l).size = l.length := rfl
theorem str_inj {a b : List UInt8} (h : str a = str b) : a = b := by
  unfold str at h; injection h with h; simpa using h
theorem run_conv_bytes {P : Program} (w : World) (src e dst : TypeId) (hs : P.underlying src = some (.slice e)) (he : P.underlying e = some (.int .u8)) (hd : P.underlying dst = some .string)
    (B : Nat) (A : Option Addr) (l : List UInt8) (n cap : Nat) (hn : n = l.length) (h : Bs w B A l) (hA : A = none → l = []) : (convert src dst (Value.slice A n cap)).run P w = Result.ok (.string (str l)) w := by
  subst hn
  have key : strOfNums (l.map fun c => (c.toNat : Int)) = str l := by
    apply congrArg ByteArray.mk
    rw [List.map_map]
    congr 1
    conv => rhs; rw [← List.map_id l]
    apply List.map_congr_left
    intro c _
    simp
  rcases A with _ | ad
  · obtain rfl := hA rfl
    exact run_convert_bytes_nil w src e hs he 0 cap dst hd
  · rcases Nat.eq_zero_or_pos l.length with h0 | h0
    · obtain rfl := List.eq_nil_of_length_eq_zero h0
      rw [run_convert_bytes_string w src dst e _ _ _ hs he hd]
      exact run_bytesToString w ad 0 cap [] (by simp [loadCells, loadCellsFrom])
    · obtain ⟨b, off, e1, _, _⟩ := h 0 h0
      injection e1 with e1
      subst e1
      have := run_convert_bytes_arg w src e hs he b off l.length cap (l.map fun c => (c.toNat : Int)) (by simp) (fun i hi => by
        obtain ⟨b', off', e2, _, hc⟩ := h i hi
        injection e2 with e2
        injection e2 with e3 e4
        subst e3 e4
        rw [hc]
        simp [List.getD_eq_getElem?_getD, hi]) dst hd
      rw [this, key]

/-- 'make([]T, n)' of elements of one cell. -/
theorem run_make_el {P : Program} {t e : TypeId} {z : Value} {bytes : Nat} (E : El P t e z bytes) (n : Nat) (i : Int) (hi' : i = n) (hn : n ≤ 1000000000000) (hb : bytes ≤ 100) (w : World) :
    (Instr.makeSlice t (.int .i64 i) (.int .i64 i)).run P w = .ok (.slice (some ⟨w.heap.size, 0, none⟩) n n) (w.alloc (.cells (List.replicate n z).toArray e)) := by
  subst hi'
  obtain ⟨ti, hi, hz0, hz1, hz2⟩ := info_parts E.hi
  have h := run_make (P := P) w t e ti z E.ht hi hz0 .i64 .i64 n n (by omega) (by omega) (by
    rw [hz2]
    have : bytes * n ≤ 100 * 1000000000000 := Nat.mul_le_mul hb hn
    have h2 : ((bytes * n : Nat) : Int) ≤ 100000000000000 := by omega
    rw [Int.natCast_mul] at h2; omega) (by omega)
  rw [h, hz1, Int.toNat_natCast, E.hz]
  have : madeCells #[z] (n * 1) = (List.replicate n z).toArray := by
    apply Array.ext
    · simp [madeCells]
    · intro j h1 h2
      simp [madeCells, Nat.mod_one]
  rw [this]

theorem El.size1 {P : Program} {t e : TypeId} {z : Value} {bytes : Nat} (E : El P t e z bytes) : (P.info? e).map (·.size) = some 1 := by
  have hi := E.hi
  cases hq : P.info? e with
  | none => rw [hq] at hi; simp at hi
  | some i => rw [hq] at hi; simp at hi; simp [hi.2.1]

/-- 'copy(full, src)' into a row that was made a step ago. -/
theorem run_copy_fresh {P : Program} {t e : TypeId} {z : Value} {bytes : Nat} (E : El P t e z bytes) (ty : TypeId) (w : World) (A : Option Addr) (xs : List Value) (n cap m : Nat) (hn : xs.length = n) (hm : n ≤ m)
    (hr : Rd w w.heap.size A xs) (h1 : ∀ u ∈ xs, u.oneCell' = true) :
    ∃ w1, (Builtin.copy_ #[t, t] ty #[.slice (some ⟨w.heap.size, 0, none⟩) m m, .slice A n cap]).run P (w.alloc (.cells (Array.replicate m z) e)) = .ok (.int .i64 n) w1 ∧
      w1.heap[w.heap.size]? = some (.cells (xs ++ List.replicate (m - n) z).toArray e (0, 0)) ∧ Below w.heap.size w w1 := by
  rcases Nat.eq_zero_or_pos n with h0 | h0
  · subst h0
    obtain rfl := List.eq_nil_of_length_eq_zero hn
    refine ⟨_, run_copy_none _ t t ty e _ A m m 0 cap E.ht E.size1 (by simp), ?_, (Below.refl _ _).alloc (Nat.le_refl _) _⟩
    rw [heap_alloc_new]
    simp
  · obtain ⟨b, off, rfl, hb, _⟩ := hr 0 (xs[0]) (by simp)
    refine ⟨_, (run_copy_row P _ t t ty e w.heap.size 0 m m ⟨b, off, none⟩ n cap _ e xs E.ht E.size1 (heap_alloc_new _ _) (by rw [hn]; exact (Nat.min_eq_left hm).symm) (fun j v hv => ?_) (by simp; omega) h1).trans (by rw [hn]; rfl), ?_,
      below_setRow ((Below.refl _ _).alloc (Nat.le_refl _) _) (Nat.le_refl _) _⟩
    · obtain ⟨b', off', e2, hb', hc⟩ := hr j v hv
      injection e2 with e2
      injection e2 with e3 e4
      subst e3 e4
      have hadd : (⟨b, off, none⟩ : Addr).add j = ⟨b, off + j, none⟩ := by unfold Addr.add; split <;> simp_all
      rw [hadd, World.cell?_alloc_lt _ _ _ hb]; exact hc
    · rw [setRow_heap _ _ _ _ _ _ (heap_alloc_new _ _)]
      congr 2
      simp [hn]
/-- 'a[i]' of an array value whose elements are numbers. -/
theorem run_index_cell {P : Program} {t e : TypeId} {n : Nat} {k : IntKind} (ht : P.underlying t = some (.array n e)) (he : P.underlying e = some (.int k)) (hs : (P.info? e).map (·.size) = some 1) (cs : Array Value) (i : Nat) (hi : i < n) (v : Value) (hv : cs[i]? = some v) (w : World) :
    (Instr.index t (.agg cs) (.int .i64 i)).run P w = .ok v w := by
  have h1 : (0 : Int) ≤ (i : Int) ∧ (i : Int) < (n : Int) := by omega
  cases hq : P.info? e with
  | none => simp [hq] at hs
  | some j =>
    have hj : j.size = 1 := by simpa [hq] using hs
    simp [Instr.index, run_underlying ht, asIntOf, h1, part, isAgg, run_underlying he, sizeOf, typeInfo, hq, hj, hv, go_sem]
    intro h; omega
end Go.Proofs.YtkdkpnidiehdfaaDoor
