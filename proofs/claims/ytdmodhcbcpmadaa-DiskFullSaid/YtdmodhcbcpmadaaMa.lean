/- maps from names to values, as lists by rising names: over any program. -/
import Derived.Maps.RangeWalk
import Derived.Maps.OwnOps
import Derived.Maps.OwnSet
import Derived.Maps.Views
import Derived.Carry
set_option linter.unusedSimpArgs false
set_option linter.unusedVariables false
namespace Go.Proofs.Ytdmodhcbcpmadaa
open Go.RowKit

abbrev Nm := List UInt8
abbrev Nl (α : Type) := List (Nm × α)
def nget {α : Type} (l : Nl α) (k : Nm) : Option α := (l.find? fun p => p.1 == k).map (·.2)
def nhas {α : Type} (l : Nl α) (k : Nm) : Bool := l.any fun p => p.1 == k
def nins {α : Type} (x : Nm × α) : Nl α → Nl α
  | [] => [x]
  | y :: r => if bytesBefore x.1 y.1 = true then x :: y :: r else y :: nins x r
def ndel {α : Type} (l : Nl α) (k : Nm) : Nl α := l.filter fun p => !(p.1 == k)
def nput {α : Type} (l : Nl α) (k : Nm) (a : α) : Nl α := nins (k, a) (ndel l k)

theorem nget_cons {α : Type} (q : Nm × α) (l : Nl α) (k : Nm) : nget (q :: l) k = if q.1 == k then some q.2 else nget l k := by
  unfold nget
  rw [List.find?_cons]
  split <;> simp_all
theorem nhas_get {α : Type} (l : Nl α) (k : Nm) : nhas l k = (nget l k).isSome := by
  induction l with
  | nil => rfl
  | cons q l ih =>
    rw [nget_cons]
    unfold nhas at ih ⊢
    rw [List.any_cons, ih]
    cases q.1 == k <;> simp
/-- alike, entry by entry. -/
def Alike {α β : Type} (R : α → β → Prop) : Nl α → Nl β → Prop
  | [], [] => True
  | p :: l, q :: l' => p.1 = q.1 ∧ R p.2 q.2 ∧ Alike R l l'
  | _, _ => False
theorem Alike.mono {α β : Type} {R S : α → β → Prop} (h : ∀ a b, R a b → S a b) : ∀ {l : Nl α} {l' : Nl β}, Alike R l l' → Alike S l l'
  | [], [], _ => trivial
  | _ :: _, _ :: _, h1 => ⟨h1.1, h _ _ h1.2.1, Alike.mono h h1.2.2⟩
  | [], _ :: _, h1 => h1.elim
  | _ :: _, [], h1 => h1.elim
theorem Alike.length {α β : Type} {R : α → β → Prop} : ∀ {l : Nl α} {l' : Nl β}, Alike R l l' → l.length = l'.length
  | [], [], _ => rfl
  | _ :: _, _ :: _, h1 => by simp [h1.2.2.length]
  | [], _ :: _, h1 => h1.elim
  | _ :: _, [], h1 => h1.elim
theorem Alike.get {α β : Type} {R : α → β → Prop} (k : Nm) : ∀ {l : Nl α} {l' : Nl β}, Alike R l l' → (nget l k = none ∧ nget l' k = none) ∨ ∃ a b, nget l k = some a ∧ nget l' k = some b ∧ R a b
  | [], [], _ => .inl ⟨rfl, rfl⟩
  | p :: l, q :: l', h1 => by
    rw [nget_cons, nget_cons, ← h1.1]
    by_cases e : (p.1 == k) = true
    · rw [if_pos e, if_pos e]; exact .inr ⟨_, _, rfl, rfl, h1.2.1⟩
    · rw [if_neg e, if_neg e]; exact Alike.get k h1.2.2
  | [], _ :: _, h1 => h1.elim
  | _ :: _, [], h1 => h1.elim
theorem Alike.del {α β : Type} {R : α → β → Prop} (k : Nm) : ∀ {l : Nl α} {l' : Nl β}, Alike R l l' → Alike R (ndel l k) (ndel l' k)
  | [], [], _ => trivial
  | p :: l, q :: l', h1 => by
    unfold ndel
    rw [List.filter_cons, List.filter_cons, ← h1.1]
    by_cases e : (p.1 == k) = true
    · simp only [e, Bool.not_true, Bool.false_eq_true, ↓reduceIte]
      exact Alike.del k h1.2.2
    · simp only [e, Bool.not_false, ↓reduceIte]
      exact ⟨h1.1, h1.2.1, Alike.del k h1.2.2⟩
  | [], _ :: _, h1 => h1.elim
  | _ :: _, [], h1 => h1.elim
theorem Alike.ins {α β : Type} {R : α → β → Prop} {k : Nm} {a : α} {b : β} (hab : R a b) : ∀ {l : Nl α} {l' : Nl β}, Alike R l l' → Alike R (nins (k, a) l) (nins (k, b) l')
  | [], [], _ => ⟨rfl, hab, trivial⟩
  | p :: l, q :: l', h1 => by
    unfold nins
    rw [← h1.1]
    split
    · exact ⟨rfl, hab, h1⟩
    · exact ⟨h1.1, h1.2.1, Alike.ins hab h1.2.2⟩
  | [], _ :: _, h1 => h1.elim
  | _ :: _, [], h1 => h1.elim
theorem Alike.put {α β : Type} {R : α → β → Prop} {l : Nl α} {l' : Nl β} (h : Alike R l l') (k : Nm) {a : α} {b : β} (hab : R a b) : Alike R (nput l k a) (nput l' k b) := (h.del k).ins hab

/-- what a map's datum is: its values as they are. -/
def HR : Value → Option (DataW Value × List MemPlace) := fun v => some (.held v, [])
def kd (l : Nl Value) : List (Lit × DataW Value) := l.map fun q => (.string q.1, .held q.2)
theorem same_string (a b : Nm) : (Lit.string a).sameKey (.string b) = (a == b) := rfl
theorem kd_ins (x : Nm × Value) : ∀ l : Nl Value, DataW.insert (.string x.1, .held x.2) (kd l) = kd (nins x l)
  | [] => rfl
  | y :: l => by
    show DataW.insert _ ((.string y.1, .held y.2) :: kd l) = _
    rw [DataW.insert, nins]
    show (if bytesBefore x.1 y.1 = true then _ else _) = _
    split
    · rfl
    · rw [kd_ins x l]; rfl
theorem kd_del (k : Nm) (l : Nl Value) : (kd l).filter (fun p => !p.1.sameKey (.string k)) = kd (ndel l k) := by
  unfold kd ndel
  rw [List.filter_map]
  rfl
theorem kd_put (l : Nl Value) (k : Nm) (v : Value) : (DataW.map (kd l)).put (.string k) (.held v) = .map (kd (nput l k v)) := by
  show DataW.map (DataW.insert (.string k, .held v) ((kd l).filter fun p => !p.1.sameKey (.string k))) = _
  rw [kd_del, nput, ← kd_ins]
theorem kd_dele (l : Nl Value) (k : Nm) : (DataW.map (kd l)).del (.string k) = .map (kd (ndel l k)) := by
  show DataW.map ((kd l).filter fun p => !p.1.sameKey (.string k)) = _
  rw [kd_del]
theorem at_cons (p : Lit × DataW Value) (es : List (Lit × DataW Value)) (k : Lit) (z : DataW Value) : (DataW.map (p :: es)).atKey k z = if p.1.sameKey k = true then p.2 else (DataW.map es).atKey k z := by
  simp only [DataW.atKey, List.find?_cons]
  cases p.1.sameKey k <;> rfl
theorem kd_at (l : Nl Value) (k : Nm) (z : Value) : (DataW.map (kd l)).atKey (.string k) (.held z) = .held ((nget l k).getD z) := by
  induction l with
  | nil => rfl
  | cons q l ih =>
    rw [nget_cons]
    show (DataW.map ((.string q.1, .held q.2) :: kd l)).atKey _ _ = _
    rw [at_cons, ih, same_string]
    cases q.1 == k <;> rfl
theorem kd_has (l : Nl Value) (k : Nm) : Maps.has (.map (kd l)) (.string k) = (nget l k).isSome := by
  rw [← nhas_get, Maps.has_eq]
  unfold kd nhas
  rw [List.any_map]
  rfl
theorem kd_size (l : Nl Value) : Maps.size (.map (kd l)) = l.length := by
  rw [Maps.size_eq]; unfold kd; simp
/-- block m is a map from names to values: just these. -/
def MapN (P : Program) (kt : TypeId) (w : World) (m : Nat) (l : Nl Value) : Prop := w.ownsMap P kt HR m l.length (.map (kd l))
theorem MapN.of {P : Program} {kt : TypeId} {w : World} {m n : Nat} {l : Nl Value} (h : w.ownsMap P kt HR m n (.map (kd l))) : MapN P kt w m l := by
  obtain ⟨es', clock, h1, h2, h3, h4⟩ := h
  refine ⟨es', clock, h1, h2, ?_, h4⟩
  injection h4 with h6
  have h7 := congrArg List.length h6
  rw [length_sorted] at h7
  simp [kd] at h7
  omega
theorem MapN.made (P : Program) (kt : TypeId) (w : World) : MapN P kt (w.alloc (.map #[] 0)) w.heap.size [] := .of (World.ownsMap_made w P kt HR)
theorem MapN.lt {P : Program} {kt : TypeId} {w : World} {m : Nat} {l : Nl Value} (h : MapN P kt w m l) : m < w.heap.size := World.ownsMap.lt h
theorem MapN.kept {P : Program} {kt : TypeId} {w w' : World} {m : Nat} {l : Nl Value} {row : Option Nat} (h : MapN P kt w m l) (hg : w.grownBy w' row) (hne : some m ≠ row) : MapN P kt w' m l := World.ownsMap.kept h hg hne
theorem MapN.at {P : Program} {kt : TypeId} {w w' : World} {m : Nat} {l : Nl Value} (h : MapN P kt w m l) (hh : w'.heap[m]? = w.heap[m]?) : MapN P kt w' m l := by
  obtain ⟨es, clock, h1, h2⟩ := h
  exact ⟨es, clock, hh.trans h1, h2⟩
theorem MapN.look_ok {P : Program} {kt t e : TypeId} {w : World} {m : Nat} {l : Nl Value} (h : MapN P kt w m l) (hk : Maps.Keyed P kt) (ht : P.underlying t = some (.map kt e)) {z : Value} (hz : (zeroValue e).run P w = .ok z w) {key : Value} {k : Nm} (hkey : keyOf P kt key = some (.string k)) :
    (Instr.lookup t (.map (some m)) key true).run P w = .ok (.tuple #[(nget l k).getD z, .bool (nget l k).isSome]) w := by
  obtain ⟨v, ps, h1, h2⟩ := World.ownsMap.look_ok h hk ht hz (zd := .held z) (zp := []) rfl hkey
  rw [kd_at, kd_has] at *
  unfold HR at h2
  injection h2 with h2
  injection h2 with h2 _
  injection h2 with h2
  rw [h1, h2]
theorem MapN.look {P : Program} {kt t e : TypeId} {w : World} {m : Nat} {l : Nl Value} (h : MapN P kt w m l) (hk : Maps.Keyed P kt) (ht : P.underlying t = some (.map kt e)) {z : Value} (hz : (zeroValue e).run P w = .ok z w) {key : Value} {k : Nm} (hkey : keyOf P kt key = some (.string k)) :
    (Instr.lookup t (.map (some m)) key false).run P w = .ok ((nget l k).getD z) w := by
  obtain ⟨v, ps, h1, h2⟩ := World.ownsMap.lookup h hk ht hz (zd := .held z) (zp := []) rfl hkey
  rw [kd_at] at h2
  unfold HR at h2
  injection h2 with h2
  injection h2 with h2 _
  injection h2 with h2
  rw [h1, h2]
theorem MapN.store {P : Program} {kt t e : TypeId} {w : World} {m : Nat} {l : Nl Value} (h : MapN P kt w m l) (hk : Maps.Keyed P kt) (ht : P.underlying t = some (.map kt e)) (hn : l.length < maxLen) {key val : Value} {k : Nm} (hkey : keyOf P kt key = some (.string k)) :
    ∃ w', (Instr.mapUpdate t (.map (some m)) key val).run P w = .ok () w' ∧ MapN P kt w' m (nput l k val) ∧ w.mapTurned w' m := by
  obtain ⟨w', h1, h2, h3⟩ := World.ownsMap.store h hk ht hn hkey (val := val) (d := .held val) (ps := []) rfl
  rw [kd_put] at h2
  exact ⟨w', h1, .of h2, h3⟩
theorem MapN.drop {P : Program} {kt t e : TypeId} {w : World} {m : Nat} {l : Nl Value} (h : MapN P kt w m l) (hk : Maps.Keyed P kt) (ht : P.underlying t = some (.map kt e)) {key : Value} {k : Nm} (hkey : keyOf P kt key = some (.string k)) (ty : TypeId) :
    ∃ w', (Builtin.delete_ #[t, kt] ty #[.map (some m), key]).run P w = .ok (.tuple #[]) w' ∧ MapN P kt w' m (ndel l k) ∧ w.mapTurned w' m := by
  obtain ⟨w', h1, h2, h3⟩ := World.ownsMap.drop h hk ht hkey ty
  rw [kd_dele] at h2
  exact ⟨w', h1, .of h2, h3⟩
theorem MapN.nodup {P : Program} {kt : TypeId} {w : World} {m : Nat} {l : Nl Value} (h : MapN P kt w m l) (hk : Maps.Keyed P kt) : l.Pairwise fun p q => p.1 ≠ q.1 := by
  obtain ⟨es, h1, h2⟩ := World.ownsMap.tidy h hk
  injection h1 with h1
  rw [← h1] at h2
  unfold kd at h2
  rw [List.pairwise_map] at h2
  exact h2.imp fun h e => h (by simp only [e])
end Go.Proofs.Ytdmodhcbcpmadaa
