/- several texts in one: maps from names to values, as lists by rising names: over any program., disks: plain, no program. -/
import Derived.Maps.RangeWalk
import Derived.Maps.OwnOps
import Derived.Maps.OwnSet
import Derived.Maps.Views
import Derived.Carry
section
set_option linter.unusedSimpArgs false
set_option linter.unusedVariables false
namespace Go.Proofs.YtegekaocbalndaaGreatDoor
open Go.RowKit

abbrev Nm := List UInt8
abbrev Nl (α : Type) := List (Nm × α)
def nget {α : Type} (l : Nl α) (k : Nm) : Option α := (l.find? fun p => p.1 == k).map (·.2)
def nhas {α : Type} (l : Nl α) (k : Nm) : Bool := l.any fun p => p.1 == k
def nins {α : Type} (x : Nm × α) : Nl α → Nl α
  | [] => [x]
  | y :: r => if bytesBefore x.1 y.1 = true then x :: y :: r else y :: nins x r
def ndel {α : Type} (l : Nl α) (k : Nm) : Nl α := l.filter fun p => !(p.1 == k)
def nput {α : Type} (l : Nl α) (k : Nm) (a : α) : Nl α := nins (k, a) (ndel l k)

theorem nget_cons {α : Type} (q : Nm × α) (l : Nl α) (k : Nm) : nget (q :: l) k = if q.1 == k then some q.2 else nget l k := by
  unfold nget
  rw [List.find?_cons]
  split <;> simp_all
theorem nhas_get {α : Type} (l : Nl α) (k : Nm) : nhas l k = (nget l k).isSome := by
  induction l with
  | nil => rfl
  | cons q l ih =>
    rw [nget_cons]
    unfold nhas at ih ⊢
    rw [List.any_cons, ih]
    cases q.1 == k <;> simp
/-- alike, entry by entry. -/
def Alike {α β : Type} (R : α → β → Prop) : Nl α → Nl β → Prop
  | [], [] => True
  | p :: l, q :: l' => p.1 = q.1 ∧ R p.2 q.2 ∧ Alike R l l'
  | _, _ => False
theorem Alike.mono {α β : Type} {R S : α → β → Prop} (h : ∀ a b, R a b → S a b) : ∀ {l : Nl α} {l' : Nl β}, Alike R l l' → Alike S l l'
  | [], [], _ => trivial
  | _ :: _, _ :: _, h1 => ⟨h1.1, h _ _ h1.2.1, Alike.mono h h1.2.2⟩
  | [], _ :: _, h1 => h1.elim
  | _ :: _, [], h1 => h1.elim
theorem Alike.length {α β : Type} {R : α → β → Prop} : ∀ {l : Nl α} {l' : Nl β}, Alike R l l' → l.length = l'.length
  | [], [], _ => rfl
  | _ :: _, _ :: _, h1 => by simp [h1.2.2.length]
  | [], _ :: _, h1 => h1.elim
  | _ :: _, [], h1 => h1.elim
theorem Alike.get {α β : Type} {R : α → β → Prop} (k : Nm) : ∀ {l : Nl α} {l' : Nl β}, Alike R l l' → (nget l k = none ∧ nget l' k = none) ∨ ∃ a b, nget l k = some a ∧ nget l' k = some b ∧ R a b
  | [], [], _ => .inl ⟨rfl, rfl⟩
  | p :: l, q :: l', h1 => by
    rw [nget_cons, nget_cons, ← h1.1]
    by_cases e : (p.1 == k) = true
    · rw [if_pos e, if_pos e]; exact .inr ⟨_, _, rfl, rfl, h1.2.1⟩
    · rw [if_neg e, if_neg e]; exact Alike.get k h1.2.2
  | [], _ :: _, h1 => h1.elim
  | _ :: _, [], h1 => h1.elim
theorem Alike.del {α β : Type} {R : α → β → Prop} (k : Nm) : ∀ {l : Nl α} {l' : Nl β}, Alike R l l' → Alike R (ndel l k) (ndel l' k)
  | [], [], _ => trivial
  | p :: l, q :: l', h1 => by
    unfold ndel
    rw [List.filter_cons, List.filter_cons, ← h1.1]
    by_cases e : (p.1 == k) = true
    · simp only [e, Bool.not_true, Bool.false_eq_true, ↓reduceIte]
      exact Alike.del k h1.2.2
    · simp only [e, Bool.not_false, ↓reduceIte]
      exact ⟨h1.1, h1.2.1, Alike.del k h1.2.2⟩
  | [], _ :: _, h1 => h1.elim
  | _ :: _, [], h1 => h1.elim
theorem Alike.ins {α β : Type} {R : α → β → Prop} {k : Nm} {a : α} {b : β} (hab : R a b) : ∀ {l : Nl α} {l' : Nl β}, Alike R l l' → Alike R (nins (k, a) l) (nins (k, b) l')
  | [], [], _ => ⟨rfl, hab, trivial⟩
  | p :: l, q :: l', h1 => by
    unfold nins
    rw [← h1.1]
    split
    · exact ⟨rfl, hab, h1⟩
    · exact ⟨h1.1, h1.2.1, Alike.ins hab h1.2.2⟩
  | [], _ :: _, h1 => h1.elim
  | _ :: _, [], h1 => h1.elim
theorem Alike.put {α β : Type} {R : α → β → Prop} {l : Nl α} {l' : Nl β} (h : Alike R l l') (k : Nm) {a : α} {b : β} (hab : R a b) : Alike R (nput l k a) (nput l' k b) := (h.del k).ins hab

/-- what a map's datum is: its values as they are. -/
def HR : Value → Option (DataW Value × List MemPlace) := fun v => some (.held v, [])
def kd (l : Nl Value) : List (Lit × DataW Value) := l.map fun q => (.string q.1, .held q.2)
theorem same_string (a b : Nm) : (Lit.string a).sameKey (.string b) = (a == b) := rfl
theorem kd_ins (x : Nm × Value) : ∀ l : Nl Value, DataW.insert (.string x.1, .held x.2) (kd l) = kd (nins x l)
  | [] => rfl
  | y :: l => by
    show DataW.insert _ ((.string y.1, .held y.2) :: kd l) = _
    rw [DataW.insert, nins]
    show (if bytesBefore x.1 y.1 = true then _ else _) = _
    split
    · rfl
    · rw [kd_ins x l]; rfl
theorem kd_del (k : Nm) (l : Nl Value) : (kd l).filter (fun p => !p.1.sameKey (.string k)) = kd (ndel l k) := by
  unfold kd ndel
  rw [List.filter_map]
  rfl
theorem kd_put (l : Nl Value) (k : Nm) (v : Value) : (DataW.map (kd l)).put (.string k) (.held v) = .map (kd (nput l k v)) := by
  show DataW.map (DataW.insert (.string k, .held v) ((kd l).filter fun p => !p.1.sameKey (.string k))) = _
  rw [kd_del, nput, ← kd_ins]
theorem kd_dele (l : Nl Value) (k : Nm) : (DataW.map (kd l)).del (.string k) = .map (kd (ndel l k)) := by
  show DataW.map ((kd l).filter fun p => !p.1.sameKey (.string k)) = _
  rw [kd_del]
theorem at_cons (p : Lit × DataW Value) (es : List (Lit × DataW Value)) (k : Lit) (z : DataW Value) : (DataW.map (p :: es)).atKey k z = if p.1.sameKey k = true then p.2 else (DataW.map es).atKey k z := by
  simp only [DataW.atKey, List.find?_cons]
  cases p.1.sameKey k <;> rfl
theorem kd_at (l : Nl Value) (k : Nm) (z : Value) : (DataW.map (kd l)).atKey (.string k) (.held z) = .held ((nget l k).getD z) := by
  induction l with
  | nil => rfl
  | cons q l ih =>
    rw [nget_cons]
    show (DataW.map ((.string q.1, .held q.2) :: kd l)).atKey _ _ = _
    rw [at_cons, ih, same_string]
    cases q.1 == k <;> rfl
theorem kd_has (l : Nl Value) (k : Nm) : Maps.has (.map (kd l)) (.string k) = (nget l k).isSome := by
  rw [← nhas_get, Maps.has_eq]
  unfold kd nhas
  rw [List.any_map]
  rfl
theorem kd_size (l : Nl Value) : Maps.size (.map (kd l)) = l.length := by
  rw [Maps.size_eq]; unfold kd; simp
/-- block m is a map from names to values: just these. -/
def MapN (P : Program) (kt : TypeId) (w : World) (m : Nat) (l : Nl Value) : Prop := w.ownsMap P kt HR m l.length (.map (kd l))
theorem MapN.of {P : Program} {kt : TypeId} {w : World} {m n : Nat} {l : Nl Value} (h : w.ownsMap P kt HR m n (.map (kd l))) : MapN P kt w m l := by
  obtain ⟨es', clock, h1, h2, h3, h4⟩ := h
  refine ⟨es', clock, h1, h2, ?_, h4⟩
  injection h4 with h6
  have h7 := congrArg List.length h6
  rw [length_sorted] at h7
  simp [kd] at h7
  omega
theorem MapN.made (P : Program) (kt : TypeId) (w : World) : MapN P kt (w.alloc (.map #[] 0)) w.heap.size [] := .of (World.ownsMap_made w P kt HR)
theorem MapN.lt {P : Program} {kt : TypeId} {w : World} {m : Nat} {l : Nl Value} (h : MapN P kt w m l) : m < w.heap.size := World.ownsMap.lt h
theorem MapN.kept {P : Program} {kt : TypeId} {w w' : World} {m : Nat} {l : Nl Value} {row : Option Nat} (h : MapN P kt w m l) (hg : w.grownBy w' row) (hne : some m ≠ row) : MapN P kt w' m l := World.ownsMap.kept h hg hne
theorem MapN.at {P : Program} {kt : TypeId} {w w' : World} {m : Nat} {l : Nl Value} (h : MapN P kt w m l) (hh : w'.heap[m]? = w.heap[m]?) : MapN P kt w' m l := by
  obtain ⟨es, clock, h1, h2⟩ := h
  exact ⟨es, clock, hh.trans h1, h2⟩
theorem MapN.look_ok {P : Program} {kt t e : TypeId} {w : World} {m : Nat} {l : Nl Value} (h : MapN P kt w m l) (hk : Maps.Keyed P kt) (ht : P.underlying t = some (.map kt e)) {z : Value} (hz : (zeroValue e).run P w = .ok z w) {key : Value} {k : Nm} (hkey : keyOf P kt key = some (.string k)) :
    (Instr.lookup t (.map (some m)) key true).run P w = .ok (.tuple #[(nget l k).getD z, .bool (nget l k).isSome]) w := by
  obtain ⟨v, ps, h1, h2⟩ := World.ownsMap.look_ok h hk ht hz (zd := .held z) (zp := []) rfl hkey
  rw [kd_at, kd_has] at *
  unfold HR at h2
  injection h2 with h2
  injection h2 with h2 _
  injection h2 with h2
  rw [h1, h2]
theorem MapN.look {P : Program} {kt t e : TypeId} {w : World} {m : Nat} {l : Nl Value} (h : MapN P kt w m l) (hk : Maps.Keyed P kt) (ht : P.underlying t = some (.map kt e)) {z : Value} (hz : (zeroValue e).run P w = .ok z w) {key : Value} {k : Nm} (hkey : keyOf P kt key = some (.string k)) :
    (Instr.lookup t (.map (some m)) key false).run P w = .ok ((nget l k).getD z) w := by
  obtain ⟨v, ps, h1, h2⟩ := World.ownsMap.lookup h hk ht hz (zd := .held z) (zp := []) rfl hkey
  rw [kd_at] at h2
  unfold HR at h2
  injection h2 with h2
  injection h2 with h2 _
  injection h2 with h2
  rw [h1, h2]
theorem MapN.store {P : Program} {kt t e : TypeId} {w : World} {m : Nat} {l : Nl Value} (h : MapN P kt w m l) (hk : Maps.Keyed P kt) (ht : P.underlying t = some (.map kt e)) (hn : l.length < maxLen) {key val : Value} {k : Nm} (hkey : keyOf P kt key = some (.string k)) :
    ∃ w', (Instr.mapUpdate t (.map (some m)) key val).run P w = .ok () w' ∧ MapN P kt w' m (nput l k val) ∧ w.mapTurned w' m := by
  obtain ⟨w', h1, h2, h3⟩ := World.ownsMap.store h hk ht hn hkey (val := val) (d := .held val) (ps := []) rfl
  rw [kd_put] at h2
  exact ⟨w', h1, .of h2, h3⟩
theorem MapN.drop {P : Program} {kt t e : TypeId} {w : World} {m : Nat} {l : Nl Value} (h : MapN P kt w m l) (hk : Maps.Keyed P kt) (ht : P.underlying t = some (.map kt e)) {key : Value} {k : Nm} (hkey : keyOf P kt key = some (.string k)) (ty : TypeId) :
    ∃ w', (Builtin.delete_ #[t, kt] ty #[.map (some m), key]).run P w = .ok (.tuple #[]) w' ∧ MapN P kt w' m (ndel l k) ∧ w.mapTurned w' m := by
  obtain ⟨w', h1, h2, h3⟩ := World.ownsMap.drop h hk ht hkey ty
  rw [kd_dele] at h2
  exact ⟨w', h1, .of h2, h3⟩
theorem MapN.nodup {P : Program} {kt : TypeId} {w : World} {m : Nat} {l : Nl Value} (h : MapN P kt w m l) (hk : Maps.Keyed P kt) : l.Pairwise fun p q => p.1 ≠ q.1 := by
  obtain ⟨es, h1, h2⟩ := World.ownsMap.tidy h hk
  injection h1 with h1
  rw [← h1] at h2
  unfold kd at h2
  rw [List.pairwise_map] at h2
  exact h2.imp fun h e => h (by simp only [e])
end Go.Proofs.YtegekaocbalndaaGreatDoor
end

section
set_option linter.unusedSimpArgs false
set_option linter.unusedVariables false
namespace Go.Proofs.YtegekaocbalndaaGreatDoor
open Go.RowKit

/-- a file. -/
structure Fl where
  b : List UInt8
  safe : Nat
  kept : Bool
/-- a disk. -/
structure Dk where
  size : Nat
  fs : Nl Fl
  left : Int
  writes : Nat
def okc (c : UInt8) : Bool := decide (97 ≤ c.toNat ∧ c.toNat ≤ 122) || decide (48 ≤ c.toNat ∧ c.toNat ≤ 57) || decide (c.toNat = 46) || decide (c.toNat = 45)
def nameOk (l : Nm) : Bool := decide (1 ≤ l.length) && decide (l.length ≤ 40) && l.all okc

def total {α : Type} (f : α → Nat) (l : Nl α) : Nat := (l.map fun p => f p.2).sum
theorem total_cons {α : Type} (f : α → Nat) (p : Nm × α) (l : Nl α) : total f (p :: l) = f p.2 + total f l := by simp [total]
theorem total_one {α : Type} (l : Nl α) : total (fun _ => 1) l = l.length := by
  induction l with
  | nil => rfl
  | cons p l ih => rw [total_cons, ih]; simp; omega
theorem total_mem {α : Type} (f : α → Nat) {p : Nm × α} : ∀ {l : Nl α}, p ∈ l → f p.2 ≤ total f l
  | [], h => by simp at h
  | q :: l, h => by
    rw [total_cons]
    rcases List.mem_cons.1 h with rfl | h
    · omega
    · have := total_mem f h; omega
theorem nget_mem {α : Type} {k : Nm} {a : α} : ∀ {l : Nl α}, nget l k = some a → (k, a) ∈ l
  | [], h => by simp [nget] at h
  | q :: l, h => by
    rw [nget_cons] at h
    split at h
    · rename_i e
      injection h with h
      have e' : q.1 = k := by simpa using e
      rw [← e', ← h]; exact List.mem_cons_self
    · exact List.mem_cons_of_mem _ (nget_mem h)
theorem nget_total {α : Type} (f : α → Nat) {l : Nl α} {k : Nm} {a : α} (h : nget l k = some a) : f a ≤ total f l := total_mem f (nget_mem h)

/-- by rising names. -/
def Rising {α : Type} (l : Nl α) : Prop := l.Pairwise fun p q => bytesBefore p.1 q.1 = true
theorem Rising.nodup {α : Type} {l : Nl α} (h : Rising l) : l.Pairwise fun p q => p.1 ≠ q.1 := h.imp fun {p q} h e => by
  rw [e, WideAt.bytes_irrefl] at h; cases h
theorem mem_nins {α : Type} {x q : Nm × α} : ∀ {l : Nl α}, q ∈ nins x l ↔ q = x ∨ q ∈ l
  | [] => by simp [nins]
  | y :: r => by
    unfold nins
    split
    · simp
    · rw [List.mem_cons, mem_nins (l := r), List.mem_cons]
      constructor
      · rintro (h | h | h)
        · exact .inr (.inl h)
        · exact .inl h
        · exact .inr (.inr h)
      · rintro (h | h | h)
        · exact .inr (.inl h)
        · exact .inl h
        · exact .inr (.inr h)
theorem Rising.ins {α : Type} {x : Nm × α} : ∀ {l : Nl α}, Rising l → (∀ q ∈ l, q.1 ≠ x.1) → Rising (nins x l)
  | [], _, _ => by simp [nins, Rising]
  | y :: r, h, hn => by
    obtain ⟨h1, h2⟩ := List.pairwise_cons.1 h
    unfold nins
    split
    · rename_i e
      refine List.pairwise_cons.2 ⟨fun q hq => ?_, h⟩
      rcases List.mem_cons.1 hq with rfl | hq
      · exact e
      · exact WideShapes.bytes_trans _ _ _ e (h1 q hq)
    · rename_i e
      refine List.pairwise_cons.2 ⟨fun q hq => ?_, Rising.ins h2 fun q hq => hn q (by simp [hq])⟩
      rcases mem_nins.1 hq with rfl | hq
      · rcases WideAt.bytes_total y.1 q.1 (hn y (by simp)) with h3 | h3
        · exact h3
        · exact absurd h3 e
      · exact h1 q hq
theorem Rising.del {α : Type} {l : Nl α} (h : Rising l) (k : Nm) : Rising (ndel l k) := List.Pairwise.filter _ h
theorem ndel_ne {α : Type} {l : Nl α} {k : Nm} {q : Nm × α} (h : q ∈ ndel l k) : q.1 ≠ k := by
  unfold ndel at h
  have := (List.mem_filter.1 h).2
  simpa using this
theorem Rising.put {α : Type} {l : Nl α} (h : Rising l) (k : Nm) (a : α) : Rising (nput l k a) := (h.del k).ins fun q hq => ndel_ne hq
theorem total_ins {α : Type} (f : α → Nat) (x : Nm × α) : ∀ l : Nl α, total f (nins x l) = f x.2 + total f l
  | [] => by simp [nins, total]
  | y :: r => by
    unfold nins
    split
    · rw [total_cons]
    · rw [total_cons, total_ins f x r, total_cons]; omega
theorem ndel_cons {α : Type} (q : Nm × α) (l : Nl α) (k : Nm) : ndel (q :: l) k = if q.1 == k then ndel l k else q :: ndel l k := by
  unfold ndel
  rw [List.filter_cons]
  cases q.1 == k <;> rfl
theorem ndel_none {α : Type} {k : Nm} : ∀ {l : Nl α}, (∀ q ∈ l, q.1 ≠ k) → ndel l k = l
  | [], _ => rfl
  | q :: l, h => by
    rw [ndel_cons, if_neg (by simpa using h q (by simp)), ndel_none fun p hp => h p (by simp [hp])]
theorem total_del {α : Type} (f : α → Nat) (k : Nm) : ∀ {l : Nl α}, (l.Pairwise fun p q => p.1 ≠ q.1) → total f (ndel l k) + (match nget l k with | some a => f a | none => 0) = total f l
  | [], _ => by simp [ndel, nget, total]
  | q :: l, h => by
    obtain ⟨h1, h2⟩ := List.pairwise_cons.1 h
    rw [ndel_cons, nget_cons]
    by_cases e : (q.1 == k) = true
    · have e' : q.1 = k := by simpa using e
      rw [if_pos e, if_pos e, ndel_none fun p hp => by rw [← e']; exact (h1 p hp).symm, total_cons]
      simp only []
      omega
    · rw [if_neg e, if_neg e, total_cons, total_cons]
      have := total_del f k h2
      omega
theorem total_put {α : Type} (f : α → Nat) {l : Nl α} (h : Rising l) (k : Nm) (a : α) : total f (nput l k a) + (match nget l k with | some b => f b | none => 0) = total f l + f a := by
  unfold nput
  rw [total_ins]
  have := total_del f k h.nodup
  simp only []
  omega
theorem nget_ins {α : Type} (x : Nm × α) (k : Nm) : ∀ (l : Nl α), (∀ q ∈ l, q.1 ≠ x.1) → nget (nins x l) k = if x.1 == k then some x.2 else nget l k
  | [], _ => by unfold nins; rw [nget_cons]
  | y :: r, h => by
    unfold nins
    split
    · rw [nget_cons]
    · rw [nget_cons, nget_ins x k r fun q hq => h q (by simp [hq]), nget_cons]
      by_cases e : (y.1 == k) = true
      · have e' : y.1 = k := by simpa using e
        have : ¬ (x.1 == k) = true := by
          have := h y (by simp)
          rw [← e']
          simpa using this.symm
        rw [if_pos e, if_neg this, if_pos e]
      · rw [if_neg e, if_neg e]
theorem nget_del {α : Type} (k k' : Nm) : ∀ (l : Nl α), nget (ndel l k) k' = if k == k' then none else nget l k'
  | [] => by simp [ndel, nget]
  | q :: l => by
    rw [ndel_cons, nget_cons]
    by_cases e : (q.1 == k) = true
    · have e' : q.1 = k := by simpa using e
      rw [if_pos e, nget_del k k' l, e']
      by_cases e2 : (k == k') = true
      · rw [if_pos e2, if_pos e2]
      · rw [if_neg e2, if_neg e2, if_neg e2]
    · rw [if_neg e, nget_cons, nget_del k k' l]
      by_cases e2 : (q.1 == k') = true
      · have e3 : q.1 = k' := by simpa using e2
        have : ¬ (k == k') = true := by rw [← e3]; simpa using fun h => e (by simp [h])
        rw [if_pos e2, if_neg this, if_pos e2]
      · rw [if_neg e2, if_neg e2]
theorem nget_put {α : Type} (l : Nl α) (k k' : Nm) (a : α) : nget (nput l k a) k' = if k == k' then some a else nget l k' := by
  unfold nput
  rw [nget_ins _ _ _ fun q hq => ndel_ne hq, nget_del]
  by_cases e : (k == k') = true
  · rw [if_pos e, if_pos e]
  · rw [if_neg e, if_neg e, if_neg e]
theorem put_length {α : Type} {l : Nl α} (h : Rising l) (k : Nm) (a : α) : (nput l k a).length + (match nget l k with | some _ => 1 | none => 0) = l.length + 1 := by
  have := total_put (fun _ => 1) h k a
  rw [total_one, total_one] at this
  exact this
theorem del_length {α : Type} {l : Nl α} (k : Nm) : (ndel l k).length ≤ l.length := List.length_filter_le _ _

/-- what may be on a disk. -/
def flen (f : Fl) : Nat := f.b.length
def Dk.used (d : Dk) : Nat := total flen d.fs
structure Dk.Ok (d : Dk) : Prop where
  size : d.size ≤ 67108864
  used : d.used ≤ d.size
  count : d.fs.length ≤ 256
  rising : Rising d.fs
  safe : ∀ p ∈ d.fs, p.2.safe ≤ p.2.b.length
  left : -1 ≤ d.left ∧ d.left ≤ 9223372036854775807
def fl0 : Fl := ⟨[], 0, false⟩
def Dk.file (d : Dk) (k : Nm) : Fl := (nget d.fs k).getD fl0
def Dk.has (d : Dk) (k : Nm) : Bool := (nget d.fs k).isSome
/-- behind a write. -/
def Dk.tick (d : Dk) (fs : Nl Fl) : Dk := ⟨d.size, fs, if 0 < d.left then d.left - 1 else d.left, d.writes + 1⟩
def Dk.wr (d : Dk) (fs : Nl Fl) : Dk × Nat := if d.left = 0 then (d, 13) else (d.tick fs, 0)
def Dk.append (d : Dk) (k : Nm) (b : List UInt8) : Dk × Nat :=
  if nameOk k = false then (d, 2)
  else if (d.has k = false ∧ 256 ≤ d.fs.length) ∨ d.size < d.used + b.length then (d, 8)
  else d.wr (nput d.fs k ⟨(d.file k).b ++ b, (d.file k).safe, (d.file k).kept⟩)
def Dk.cut (d : Dk) (k : Nm) (n : Int) : Dk × Nat :=
  if d.has k = false then (d, 6)
  else if n < 0 ∨ (d.file k).b.length < n then (d, 2)
  else if (d.file k).safe < (d.file k).b.length then (d, 10)
  else d.wr (nput d.fs k ⟨(d.file k).b.take n.toNat, n.toNat, true⟩)
def Dk.sync (d : Dk) (k : Nm) : Dk × Nat :=
  if d.has k = false then (d, 6) else d.wr (nput d.fs k ⟨(d.file k).b, (d.file k).b.length, true⟩)
def Dk.rename (d : Dk) (k k' : Nm) : Dk × Nat :=
  if nameOk k' = false then (d, 2)
  else if d.has k = false then (d, 6)
  else if (d.file k).safe < (d.file k).b.length then (d, 10)
  else d.wr (nput (ndel d.fs k) k' ⟨(d.file k).b, (d.file k).safe, true⟩)
def Dk.remove (d : Dk) (k : Nm) : Dk × Nat :=
  if d.has k = false then (d, 6) else d.wr (ndel d.fs k)
def Dk.stop (d : Dk) (n : Int) : Dk × Nat := if n < 0 then (d, 2) else (⟨d.size, d.fs, if d.left = 0 then 0 else n, d.writes⟩, 0)
def Dk.loose (d : Dk) (k : Nm) : Nat := (d.file k).b.length - (d.file k).safe

theorem file_of {d : Dk} {k : Nm} (h : d.has k = true) : nget d.fs k = some (d.file k) := by
  unfold Dk.has Dk.file at *
  cases e : nget d.fs k with
  | none => rw [e] at h; cases h
  | some f => rfl
theorem file_none {d : Dk} {k : Nm} (h : d.has k = false) : nget d.fs k = none ∧ d.file k = fl0 := by
  unfold Dk.has Dk.file at *
  cases e : nget d.fs k with
  | none => exact ⟨rfl, rfl⟩
  | some f => rw [e] at h; cases h
theorem Dk.Ok.file {d : Dk} (h : d.Ok) (k : Nm) : (d.file k).safe ≤ (d.file k).b.length ∧ (d.file k).b.length ≤ d.used := by
  cases e : d.has k with
  | false => rw [(file_none e).2]; exact ⟨Nat.le_refl _, Nat.zero_le _⟩
  | true =>
    have h1 := nget_mem (file_of e)
    exact ⟨h.safe _ h1, total_mem flen h1⟩
theorem Dk.Ok.wr {d : Dk} (h : d.Ok) {fs : Nl Fl} (h1 : total flen fs ≤ d.size) (h2 : fs.length ≤ 256) (h3 : Rising fs) (h4 : ∀ p ∈ fs, p.2.safe ≤ p.2.b.length) : (d.wr fs).1.Ok := by
  unfold Dk.wr
  split
  · exact h
  · refine ⟨h.size, h1, h2, h3, h4, ?_⟩
    have := h.left
    show -1 ≤ (if 0 < d.left then d.left - 1 else d.left) ∧ (if 0 < d.left then d.left - 1 else d.left) ≤ _
    split <;> omega
theorem safe_put {fs : Nl Fl} {k : Nm} {f : Fl} (h : ∀ p ∈ fs, p.2.safe ≤ p.2.b.length) (hf : f.safe ≤ f.b.length) : ∀ p ∈ nput fs k f, p.2.safe ≤ p.2.b.length := fun p hp => by
  rcases mem_nins.1 hp with rfl | hp
  · exact hf
  · exact h p (List.mem_filter.1 hp).1
theorem safe_del {fs : Nl Fl} {k : Nm} (h : ∀ p ∈ fs, p.2.safe ≤ p.2.b.length) : ∀ p ∈ ndel fs k, p.2.safe ≤ p.2.b.length := fun p hp => h p (List.mem_filter.1 hp).1
theorem get_len {fs : Nl Fl} {k : Nm} {f : Fl} (h : nget fs k = some f) : (match nget fs k with | some b => flen b | none => 0) = f.b.length := by rw [h]; rfl
theorem Dk.Ok.append {d : Dk} (h : d.Ok) (k : Nm) (b : List UInt8) : (d.append k b).1.Ok := by
  unfold Dk.append
  split
  · exact h
  split
  · exact h
  rename_i h1 h2
  have hf := h.file k
  have ht := total_put flen h.rising k ⟨(d.file k).b ++ b, (d.file k).safe, (d.file k).kept⟩
  have hl := put_length h.rising k ⟨(d.file k).b ++ b, (d.file k).safe, (d.file k).kept⟩
  have hu := h.used
  have hc := h.count
  refine h.wr ?_ ?_ (h.rising.put _ _) (safe_put h.safe (by simp; omega))
  · cases e : d.has k with
    | false =>
      obtain ⟨e1, e2⟩ := file_none e
      rw [e1] at ht
      rw [e2] at ht ⊢
      simp only [flen, fl0, List.nil_append] at ht ⊢
      unfold Dk.used at *
      omega
    | true =>
      rw [file_of e] at ht
      simp only [flen, List.length_append] at ht
      unfold Dk.used at *
      omega
  · cases e : d.has k with
    | false =>
      obtain ⟨e1, e2⟩ := file_none e
      rw [e1] at hl
      simp only [e, true_and, not_or] at h2
      simp only [] at hl
      omega
    | true =>
      rw [file_of e] at hl
      simp only [] at hl
      omega
theorem Dk.Ok.putSame {d : Dk} (h : d.Ok) {k : Nm} (hk : d.has k = true) {f : Fl} (hf : f.safe ≤ f.b.length) (hl : f.b.length ≤ (d.file k).b.length) : (d.wr (nput d.fs k f)).1.Ok := by
  have ht := total_put flen h.rising k f
  have hc := put_length h.rising k f
  have hu := h.used
  have hn := h.count
  rw [file_of hk] at ht hc
  simp only [flen] at ht hc
  refine h.wr ?_ ?_ (h.rising.put _ _) (safe_put h.safe hf)
  · unfold Dk.used at *
    omega
  · omega
theorem Dk.Ok.cut {d : Dk} (h : d.Ok) (k : Nm) (n : Int) : (d.cut k n).1.Ok := by
  unfold Dk.cut
  split
  · exact h
  split
  · exact h
  split
  · exact h
  exact h.putSame (by simp_all) (by simp; omega) (by simp; omega)
theorem Dk.Ok.sync {d : Dk} (h : d.Ok) (k : Nm) : (d.sync k).1.Ok := by
  unfold Dk.sync
  split
  · exact h
  exact h.putSame (by simp_all) (Nat.le_refl _) (Nat.le_refl _)
theorem Dk.Ok.remove {d : Dk} (h : d.Ok) (k : Nm) : (d.remove k).1.Ok := by
  unfold Dk.remove
  split
  · exact h
  have ht := total_del flen k h.rising.nodup
  have hu := h.used
  unfold Dk.used at hu
  exact h.wr (by omega) (Nat.le_trans (del_length k) h.count) (h.rising.del k) (safe_del h.safe)
theorem Dk.Ok.rename {d : Dk} (h : d.Ok) (k k' : Nm) : (d.rename k k').1.Ok := by
  unfold Dk.rename
  split
  · exact h
  split
  · exact h
  split
  · exact h
  rename_i h1 h2 h3
  have h2' : d.has k = true := by simp_all
  have hf := h.file k
  have hr := h.rising.del k
  have ht := total_put flen hr k' ⟨(d.file k).b, (d.file k).safe, true⟩
  have hl := put_length hr k' ⟨(d.file k).b, (d.file k).safe, true⟩
  have ht2 := total_del flen k h.rising.nodup
  have hl2 := total_del (fun _ => 1) k h.rising.nodup
  rw [total_one, total_one] at hl2
  rw [file_of h2'] at ht2 hl2
  have hu := h.used
  have hc := h.count
  unfold Dk.used at hu
  simp only [flen] at ht ht2 hl2
  refine h.wr ?_ ?_ (hr.put _ _) (safe_put (safe_del h.safe) hf.1)
  · omega
  · omega
theorem Dk.Ok.stop {d : Dk} (h : d.Ok) (n : Int) (hn : n ≤ 9223372036854775807) : (d.stop n).1.Ok := by
  unfold Dk.stop
  split
  · exact h
  · refine ⟨h.size, h.used, h.count, h.rising, h.safe, ?_⟩
    show -1 ≤ (if d.left = 0 then 0 else n) ∧ (if d.left = 0 then 0 else n) ≤ _
    split <;> omega
def emptyDk (n : Nat) : Dk := ⟨n, [], -1, 0⟩
theorem emptyDk_ok (n : Nat) (h : n ≤ 67108864) : (emptyDk n).Ok := ⟨h, Nat.zero_le _, Nat.zero_le _, List.Pairwise.nil, by simp [emptyDk], by simp [emptyDk]⟩
theorem wr_writes (d : Dk) (fs : Nl Fl) : (d.wr fs).1.writes ≤ d.writes + 1 := by
  unfold Dk.wr
  split
  · exact Nat.le_succ _
  · exact Nat.le_refl _
theorem append_writes (d : Dk) (k : Nm) (b : List UInt8) : (d.append k b).1.writes ≤ d.writes + 1 := by
  unfold Dk.append
  split
  · exact Nat.le_succ _
  split
  · exact Nat.le_succ _
  exact wr_writes _ _
theorem sync_writes (d : Dk) (k : Nm) : (d.sync k).1.writes ≤ d.writes + 1 := by
  unfold Dk.sync
  split
  · exact Nat.le_succ _
  exact wr_writes _ _
theorem cut_writes (d : Dk) (k : Nm) (n : Int) : (d.cut k n).1.writes ≤ d.writes + 1 := by
  unfold Dk.cut
  split
  · exact Nat.le_succ _
  split
  · exact Nat.le_succ _
  split
  · exact Nat.le_succ _
  exact wr_writes _ _
theorem remove_writes (d : Dk) (k : Nm) : (d.remove k).1.writes ≤ d.writes + 1 := by
  unfold Dk.remove
  split
  · exact Nat.le_succ _
  exact wr_writes _ _
theorem rename_writes (d : Dk) (k k' : Nm) : (d.rename k k').1.writes ≤ d.writes + 1 := by
  unfold Dk.rename
  split
  · exact Nat.le_succ _
  split
  · exact Nat.le_succ _
  split
  · exact Nat.le_succ _
  exact wr_writes _ _
end Go.Proofs.YtegekaocbalndaaGreatDoor
end
