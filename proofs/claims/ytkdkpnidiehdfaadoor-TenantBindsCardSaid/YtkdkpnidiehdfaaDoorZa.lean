/- maps from numbers to numbers, as lists by rising keys. -/
import Derived.Maps.RangeWalk
import Derived.Maps.OwnOps
import Derived.Maps.OwnSet
import Derived.Maps.Views
import Derived.Lib.SlKeysI
import Derived.Carry
import Derived.RangeFuncRecord
import Derived.Test.YtkdkpnidiehdfaaDoorProg
set_option linter.unusedSimpArgs false
set_option linter.unusedVariables false
namespace Go.Proofs.YtkdkpnidiehdfaaDoor
open Go.RowKit

abbrev Zl := List (Int × Int)
def zget (l : Zl) (k : Int) : Option Int := (l.find? fun p => p.1 == k).map (·.2)
def zins (x : Int × Int) : Zl → Zl
  | [] => [x]
  | y :: r => if x.1 < y.1 then x :: y :: r else y :: zins x r
def zdel (l : Zl) (k : Int) : Zl := l.filter fun p => !(p.1 == k)
def zput (l : Zl) (k v : Int) : Zl := zins (k, v) (zdel l k)
def ZRising (l : Zl) : Prop := l.Pairwise fun p q => p.1 < q.1
def zkeys (l : Zl) : List Int := l.map (·.1)

theorem zget_cons (q : Int × Int) (l : Zl) (k : Int) : zget (q :: l) k = if q.1 == k then some q.2 else zget l k := by
  unfold zget
  rw [List.find?_cons]
  split <;> simp_all
theorem zget_none {l : Zl} {k : Int} (h : zget l k = none) : ∀ p ∈ l, p.1 ≠ k := by
  induction l with
  | nil => simp
  | cons q l ih =>
    rw [zget_cons] at h
    split at h
    · cases h
    · rename_i hq
      intro p hp
      rcases List.mem_cons.1 hp with rfl | hp
      · simpa using hq
      · exact ih h p hp
theorem zdel_none {l : Zl} {k : Int} (h : zget l k = none) : zdel l k = l := by
  unfold zdel
  rw [List.filter_eq_self]
  intro p hp
  simpa using zget_none h p hp
theorem zput_none {l : Zl} {k v : Int} (h : zget l k = none) : zput l k v = zins (k, v) l := by rw [zput, zdel_none h]
theorem zins_mem {x p : Int × Int} : ∀ {l : Zl}, p ∈ zins x l ↔ p = x ∨ p ∈ l
  | [] => by simp [zins]
  | y :: l => by
    unfold zins
    split
    · simp
    · rw [List.mem_cons, zins_mem, List.mem_cons]
      constructor
      · rintro (h | h | h)
        · exact .inr (.inl h)
        · exact .inl h
        · exact .inr (.inr h)
      · rintro (h | h | h)
        · exact .inr (.inl h)
        · exact .inl h
        · exact .inr (.inr h)
theorem ZRising.ins {x : Int × Int} : ∀ {l : Zl}, ZRising l → (∀ p ∈ l, p.1 ≠ x.1) → ZRising (zins x l)
  | [], _, _ => by simp [zins, ZRising]
  | y :: l, h, hn => by
    unfold zins
    have h' := List.pairwise_cons.1 h
    split
    · rename_i hlt
      refine List.pairwise_cons.2 ⟨fun p hp => ?_, h⟩
      rcases List.mem_cons.1 hp with rfl | hp
      · exact hlt
      · have := h'.1 p hp; omega
    · rename_i hlt
      refine List.pairwise_cons.2 ⟨fun p hp => ?_, ZRising.ins (l := l) h'.2 (fun p hp => hn p (List.mem_cons_of_mem _ hp))⟩
      rcases zins_mem.1 hp with rfl | hp
      · have := hn y (List.mem_cons_self ..); omega
      · exact h'.1 p hp
theorem ZRising.del {l : Zl} (h : ZRising l) (k : Int) : ZRising (zdel l k) := List.Pairwise.filter _ h
theorem zdel_not {l : Zl} {k : Int} : ∀ p ∈ zdel l k, p.1 ≠ k := fun p hp => by
  have := (List.mem_filter.1 hp).2
  simpa using this
theorem ZRising.put {l : Zl} (h : ZRising l) (k v : Int) : ZRising (zput l k v) := ZRising.ins (h.del k) zdel_not
theorem ZRising.keys {l : Zl} (h : ZRising l) : (zkeys l).Pairwise (· < ·) := by
  unfold zkeys; rw [List.pairwise_map]; exact h
theorem zins_length (x : Int × Int) : ∀ l : Zl, (zins x l).length = l.length + 1
  | [] => rfl
  | y :: l => by
    unfold zins
    split
    · rfl
    · simp [zins_length x l]
theorem zdel_length (l : Zl) (k : Int) : (zdel l k).length ≤ l.length := List.length_filter_le _ _
theorem zput_length (l : Zl) (k v : Int) : (zput l k v).length ≤ l.length + 1 := by
  rw [zput, zins_length]; have := zdel_length l k; omega

/-- what a map's datum is: its values as they are. -/
def HR : Value → Option (DataW Value × List MemPlace) := fun v => some (.held v, [])
def kz (l : Zl) : List (Lit × DataW Value) := l.map fun q => (.int .i64 q.1, .held (.int .i64 q.2))
theorem same_int (a b : Int) : (Lit.int .i64 a).sameKey (.int .i64 b) = (a == b) := by
  simp only [Lit.sameKey]
  cases h : a == b <;> simp_all
theorem kz_ins (x : Int × Int) : ∀ l : Zl, DataW.insert (.int .i64 x.1, .held (.int .i64 x.2)) (kz l) = kz (zins x l)
  | [] => rfl
  | y :: l => by
    show DataW.insert _ ((.int .i64 y.1, .held (.int .i64 y.2)) :: kz l) = _
    rw [DataW.insert, zins]
    by_cases h : x.1 < y.1
    · rw [if_pos h, if_pos (by simpa [Lit.before] using h)]; rfl
    · rw [if_neg h, if_neg (by simpa [Lit.before] using h), kz_ins x l]; rfl
theorem kz_del (k : Int) (l : Zl) : (kz l).filter (fun p => !p.1.sameKey (.int .i64 k)) = kz (zdel l k) := by
  unfold kz zdel
  rw [List.filter_map]
  congr 1
  apply List.filter_congr
  intro p _
  show (!(Lit.int .i64 p.1).sameKey (.int .i64 k)) = _
  rw [same_int]
theorem kz_put (l : Zl) (k v : Int) : (DataW.map (kz l)).put (.int .i64 k) (.held (.int .i64 v)) = .map (kz (zput l k v)) := by
  show DataW.map (DataW.insert (.int .i64 k, .held (.int .i64 v)) ((kz l).filter fun p => !p.1.sameKey (.int .i64 k))) = _
  rw [kz_del, zput, ← kz_ins]
theorem kz_dele (l : Zl) (k : Int) : (DataW.map (kz l)).del (.int .i64 k) = .map (kz (zdel l k)) := by
  show DataW.map ((kz l).filter fun p => !p.1.sameKey (.int .i64 k)) = _
  rw [kz_del]
theorem zat_cons (p : Lit × DataW Value) (es : List (Lit × DataW Value)) (k : Lit) (z : DataW Value) : (DataW.map (p :: es)).atKey k z = if p.1.sameKey k = true then p.2 else (DataW.map es).atKey k z := by
  simp only [DataW.atKey, List.find?_cons]
  cases p.1.sameKey k <;> rfl
theorem kz_at (l : Zl) (k z : Int) : (DataW.map (kz l)).atKey (.int .i64 k) (.held (.int .i64 z)) = .held (.int .i64 ((zget l k).getD z)) := by
  induction l with
  | nil => rfl
  | cons q l ih =>
    rw [zget_cons]
    show (DataW.map ((.int .i64 q.1, .held (.int .i64 q.2)) :: kz l)).atKey _ _ = _
    rw [zat_cons, ih, same_int]
    cases q.1 == k <;> rfl
theorem zhas_get (l : Zl) (k : Int) : (l.any fun p => p.1 == k) = (zget l k).isSome := by
  induction l with
  | nil => rfl
  | cons q l ih =>
    rw [zget_cons, List.any_cons, ih]
    cases q.1 == k <;> simp
theorem kz_has (l : Zl) (k : Int) : Maps.has (.map (kz l)) (.int .i64 k) = (zget l k).isSome := by
  rw [← zhas_get, Maps.has_eq]
  unfold kz
  rw [List.any_map]
  congr 1
  funext p
  exact same_int _ _
theorem kz_size (l : Zl) : Maps.size (.map (kz l)) = l.length := by
  rw [Maps.size_eq]; unfold kz; simp
theorem kz_keys (l : Zl) : intKeys (.map (kz l)) = zkeys l := by
  show (kz l).map (fun p => intOf p.1) = zkeys l
  unfold kz zkeys
  rw [List.map_map]
  rfl
/-- block m is a map from numbers to numbers: just these. -/
def MapZ (P : Program) (kt : TypeId) (w : World) (m : Nat) (l : Zl) : Prop := w.ownsMap P kt HR m l.length (.map (kz l))
section
variable {P : Program} {kt t e : TypeId} {w w' : World} {m : Nat} {l : Zl}
theorem MapZ.of {n : Nat} (h : w.ownsMap P kt HR m n (.map (kz l))) : MapZ P kt w m l := by
  obtain ⟨es', clock, h1, h2, h3, h4⟩ := h
  refine ⟨es', clock, h1, h2, ?_, h4⟩
  injection h4 with h6
  have h7 := congrArg List.length h6
  rw [length_sorted] at h7
  simp [kz] at h7
  omega
theorem MapZ.made (P : Program) (kt : TypeId) (w : World) : MapZ P kt (w.alloc (.map #[] 0)) w.heap.size [] := .of (World.ownsMap_made w P kt HR)
theorem MapZ.lt (h : MapZ P kt w m l) : m < w.heap.size := World.ownsMap.lt h
theorem MapZ.kept {row : Option Nat} (h : MapZ P kt w m l) (hg : w.grownBy w' row) (hne : some m ≠ row) : MapZ P kt w' m l := World.ownsMap.kept h hg hne
theorem MapZ.at (h : MapZ P kt w m l) (hh : w'.heap[m]? = w.heap[m]?) : MapZ P kt w' m l := by
  obtain ⟨es, clock, h1, h2⟩ := h
  exact ⟨es, clock, hh.trans h1, h2⟩
theorem MapZ.below (h : MapZ P kt w m l) (hb : Below w.heap.size w w') : MapZ P kt w' m l := h.at (hb.block m h.lt)
theorem MapZ.no_cell (h : MapZ P kt w m l) {b i : Nat} {v : Value} (hc : w.cell? ⟨b, i, none⟩ = some v) : b ≠ m := by
  rintro rfl
  obtain ⟨es, c, h1, _⟩ := h
  simp [World.cell?, h1] at hc
theorem MapZ.look_ok (h : MapZ P kt w m l) (hk : Maps.Keyed P kt) (ht : P.underlying t = some (.map kt e)) (hz : (zeroValue e).run P w = .ok (.int .i64 0) w) {key : Value} {k : Int} (hkey : keyOf P kt key = some (.int .i64 k)) :
    (Instr.lookup t (.map (some m)) key true).run P w = .ok (.tuple #[.int .i64 ((zget l k).getD 0), .bool (zget l k).isSome]) w := by
  obtain ⟨v, ps, h1, h2⟩ := World.ownsMap.look_ok h hk ht hz (zd := .held (.int .i64 0)) (zp := []) rfl hkey
  rw [kz_at, kz_has] at *
  unfold HR at h2
  injection h2 with h2
  injection h2 with h2 _
  injection h2 with h2
  rw [h1, h2]
theorem MapZ.look (h : MapZ P kt w m l) (hk : Maps.Keyed P kt) (ht : P.underlying t = some (.map kt e)) (hz : (zeroValue e).run P w = .ok (.int .i64 0) w) {key : Value} {k : Int} (hkey : keyOf P kt key = some (.int .i64 k)) :
    (Instr.lookup t (.map (some m)) key false).run P w = .ok (.int .i64 ((zget l k).getD 0)) w := by
  obtain ⟨v, ps, h1, h2⟩ := World.ownsMap.lookup h hk ht hz (zd := .held (.int .i64 0)) (zp := []) rfl hkey
  rw [kz_at] at h2
  unfold HR at h2
  injection h2 with h2
  injection h2 with h2 _
  injection h2 with h2
  rw [h1, h2]
theorem MapZ.store (h : MapZ P kt w m l) (hk : Maps.Keyed P kt) (ht : P.underlying t = some (.map kt e)) (hn : l.length < maxLen) {key : Value} {k : Int} (v : Int) (hkey : keyOf P kt key = some (.int .i64 k)) :
    ∃ w', (Instr.mapUpdate t (.map (some m)) key (.int .i64 v)).run P w = .ok () w' ∧ MapZ P kt w' m (zput l k v) ∧ w.mapTurned w' m := by
  obtain ⟨w', h1, h2, h3⟩ := World.ownsMap.store h hk ht hn hkey (val := .int .i64 v) (d := .held (.int .i64 v)) (ps := []) rfl
  rw [kz_put] at h2
  exact ⟨w', h1, .of h2, h3⟩
theorem MapZ.drop (h : MapZ P kt w m l) (hk : Maps.Keyed P kt) (ht : P.underlying t = some (.map kt e)) {key : Value} {k : Int} (hkey : keyOf P kt key = some (.int .i64 k)) (ty : TypeId) :
    ∃ w', (Builtin.delete_ #[t, kt] ty #[.map (some m), key]).run P w = .ok (.tuple #[]) w' ∧ MapZ P kt w' m (zdel l k) ∧ w.mapTurned w' m := by
  obtain ⟨w', h1, h2, h3⟩ := World.ownsMap.drop h hk ht hkey ty
  rw [kz_dele] at h2
  exact ⟨w', h1, .of h2, h3⟩
theorem MapZ.wipe (h : MapZ P kt w m l) (ht : P.underlying t = some (.map kt e)) (ty : TypeId) :
    ∃ w', (Builtin.clear_ #[t] ty #[.map (some m)]).run P w = .ok (.tuple #[]) w' ∧ MapZ P kt w' m [] ∧ w.grownBy w' (some m) := by
  obtain ⟨es, clock, h1, hF, hs, hD⟩ := h
  have hlt : m < w.heap.size := (Array.getElem?_eq_some_iff.1 h1).1
  refine ⟨w.putObj m (.map #[] clock), ?_, ⟨#[], clock, World.putObj_heap_same hlt, ⟨by simp, ⟨by simp, by simp, by simp⟩, by simp⟩, by simp, rfl⟩, ?_⟩
  · simp [Builtin.clear_, run_underlying ht, MapKept.run_getObj_map h1, MapKept.run_setObj_map _ h1, Result.andThen, World.putObj]
  · exact ⟨rfl, rfl, rfl, by simp, fun k hk hne => World.putObj_heap_other (by rintro rfl; exact hne rfl)⟩
end
end Go.Proofs.YtkdkpnidiehdfaaDoor
