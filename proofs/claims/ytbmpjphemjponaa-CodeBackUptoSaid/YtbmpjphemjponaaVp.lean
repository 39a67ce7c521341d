/- codes, as plain data; rows in memory. Plain: no program. -/
import Derived.Test.YtbmpjphemjponaaNum
set_option linter.unusedSimpArgs false
set_option linter.unusedVariables false
namespace Go.Proofs.Ytbmpjphemjponaa
open Go.RowKit

structure Vl where
  t : Int
  b : Int
structure Ins where
  op : Int
  arg : Int
  l : Vl
structure Nd where
  code : List Ins
  kind : Int
  arg : Int
  next : Int
  alt : Int
structure Bd where
  locals : List Vl
  stack : Int
  nodes : List Nd
structure Cd where
  shared : List Vl
  mutexes : Int
  bodies : List Bd
def Vl.zero : Vl := ⟨0, 0⟩
def Ins.zero : Ins := ⟨0, 0, Vl.zero⟩
def Nd.zero : Nd := ⟨[], 0, 0, 0, 0⟩
def Bd.zero : Bd := ⟨[], 0, []⟩
instance : Inhabited Vl := ⟨Vl.zero⟩
instance : Inhabited Ins := ⟨Ins.zero⟩
instance : Inhabited Nd := ⟨Nd.zero⟩
instance : Inhabited Bd := ⟨Bd.zero⟩
/-- are two lists the same, of what is the same? -/
def eqL {α : Type} (f : α → α → Bool) : List α → List α → Bool
  | [], [] => true
  | a :: l, b :: m => f a b && eqL f l m
  | _, _ => false
def Vl.eq (a b : Vl) : Bool := decide (a.t = b.t) && decide (a.b = b.b)
def Ins.eq (a b : Ins) : Bool := decide (a.op = b.op) && (decide (a.arg = b.arg) && a.l.eq b.l)
def Nd.eq (a b : Nd) : Bool := eqL Ins.eq a.code b.code && (decide (a.kind = b.kind) && (decide (a.arg = b.arg) && (decide (a.next = b.next) && decide (a.alt = b.alt))))
def Bd.eq (a b : Bd) : Bool := eqL Vl.eq a.locals b.locals && (decide (a.stack = b.stack) && eqL Nd.eq a.nodes b.nodes)
def Cd.eq (a b : Cd) : Bool := eqL Vl.eq a.shared b.shared && (decide (a.mutexes = b.mutexes) && eqL Bd.eq a.bodies b.bodies)
/-- how many instructions, nodes, values. -/
def Nd.wt (n : Nd) : Nat := 1 + n.code.length
def Bd.wt (b : Bd) : Nat := 1 + b.locals.length + (b.nodes.map Nd.wt).sum
def Cd.wt (c : Cd) : Nat := c.shared.length + (c.bodies.map Bd.wt).sum
theorem eqL_length {α : Type} {f : α → α → Bool} : ∀ {l m : List α}, eqL f l m = true → l.length = m.length
  | [], [], _ => rfl
  | a :: l, b :: m, h => by
    simp only [eqL, Bool.and_eq_true] at h
    simp [eqL_length h.2]
  | [], _ :: _, h => by simp [eqL] at h
  | _ :: _, [], h => by simp [eqL] at h
/-- by index. -/
theorem eqL_iff {α : Type} [Inhabited α] {f : α → α → Bool} : ∀ {l m : List α}, eqL f l m = true ↔ l.length = m.length ∧ ∀ i, i < l.length → f (l.getD i default) (m.getD i default) = true
  | [], [] => by simp [eqL]
  | a :: l, b :: m => by
    simp only [eqL, Bool.and_eq_true, eqL_iff (l := l) (m := m), List.length_cons]
    constructor
    · rintro ⟨h1, h2, h3⟩
      refine ⟨by omega, fun i hi => ?_⟩
      cases i with
      | zero => simpa using h1
      | succ i => simpa using h3 i (by omega)
    · rintro ⟨h1, h2⟩
      refine ⟨by simpa using h2 0 (by omega), by omega, fun i hi => ?_⟩
      simpa using h2 (i + 1) (by omega)
  | [], _ :: _ => by simp [eqL]
  | _ :: _, [] => by simp [eqL]
theorem eqL_refl {α : Type} {f : α → α → Bool} (h : ∀ a, f a a = true) : ∀ l, eqL f l l = true
  | [] => rfl
  | a :: l => by simp [eqL, h a, eqL_refl h l]
theorem Vl.eq_refl (a : Vl) : a.eq a = true := by simp [Vl.eq]
theorem Ins.eq_refl (a : Ins) : a.eq a = true := by simp [Ins.eq, Vl.eq_refl]
theorem Nd.eq_refl (a : Nd) : a.eq a = true := by simp [Nd.eq, eqL_refl Ins.eq_refl]
theorem Bd.eq_refl (a : Bd) : a.eq a = true := by simp [Bd.eq, eqL_refl Vl.eq_refl, eqL_refl Nd.eq_refl]
theorem Cd.eq_refl (a : Cd) : a.eq a = true := by simp [Cd.eq, eqL_refl Vl.eq_refl, eqL_refl Bd.eq_refl]

/-! ### in memory -/
/-- n elements of sz cells each stand from A on, in blocks below B; Q says what the i-th one's cells are. -/
def RowAt (w : World) (B : Nat) (A : Option Addr) (sz n : Nat) (Q : Nat → List Value → Prop) : Prop :=
  ∀ i, i < n → ∃ b o cs, A = some ⟨b, o, none⟩ ∧ b < B ∧ cs.length = sz ∧ (∀ j, j < sz → w.cell? ⟨b, o + i * sz + j, none⟩ = cs[j]?) ∧ Q i cs
theorem RowAt.below {w w' : World} {B sz n : Nat} {A : Option Addr} {Q Q' : Nat → List Value → Prop} (h : RowAt w B A sz n Q) (hb : Below B w w') (hq : ∀ i cs, i < n → Q i cs → Q' i cs) : RowAt w' B A sz n Q' := fun i hi => by
  obtain ⟨b, o, cs, h1, h2, h3, h4, h5⟩ := h i hi
  exact ⟨b, o, cs, h1, h2, h3, fun j hj => (hb.cell (p := ⟨b, _, none⟩) h2).trans (h4 j hj), hq i cs hi h5⟩
theorem RowAt.more {w : World} {B B' sz n : Nat} {A : Option Addr} {Q Q' : Nat → List Value → Prop} (h : RowAt w B A sz n Q) (hB : B ≤ B') (hq : ∀ i cs, i < n → Q i cs → Q' i cs) : RowAt w B' A sz n Q' := fun i hi => by
  obtain ⟨b, o, cs, h1, h2, h3, h4, h5⟩ := h i hi
  exact ⟨b, o, cs, h1, by omega, h3, h4, hq i cs hi h5⟩
abbrev Slc := Option Addr × Nat
/-- a slice of n elements. -/
def SlOk (p : Slc) (n : Nat) : Prop := (p.1 = none → n = 0) ∧ n ≤ p.2
def vc (v : Vl) : List Value := [.int .u8 v.t, .int .u64 v.b]
def ic (i : Ins) : List Value := [.int .u8 i.op, .int .i64 i.arg, .int .u8 i.l.t, .int .u64 i.l.b]
def ndc (n : Nd) (p : Slc) : List Value := [.slice p.1 n.code.length p.2, .int .i64 n.kind, .int .i64 n.arg, .int .i64 n.next, .int .i64 n.alt]
def bdc (x : Bd) (p q : Slc) : List Value := [.slice p.1 x.locals.length p.2, .int .i64 x.stack, .slice q.1 x.nodes.length q.2]
def VlsAt (w : World) (B : Nat) (p : Slc) (vs : List Vl) : Prop := RowAt w B p.1 2 vs.length (fun i cs => cs = vc (vs.getD i default)) ∧ SlOk p vs.length
def InsAt (w : World) (B : Nat) (p : Slc) (is : List Ins) : Prop := RowAt w B p.1 4 is.length (fun i cs => cs = ic (is.getD i default)) ∧ SlOk p is.length
def NdQ (w : World) (B : Nat) (n : Nd) (cs : List Value) : Prop := ∃ p, cs = ndc n p ∧ InsAt w B p n.code
def NdsAt (w : World) (B : Nat) (p : Slc) (ns : List Nd) : Prop := RowAt w B p.1 5 ns.length (fun i cs => NdQ w B (ns.getD i default) cs) ∧ SlOk p ns.length
def BdQ (w : World) (B : Nat) (x : Bd) (cs : List Value) : Prop := ∃ p q, cs = bdc x p q ∧ VlsAt w B p x.locals ∧ NdsAt w B q x.nodes
def BdsAt (w : World) (B : Nat) (p : Slc) (xs : List Bd) : Prop := RowAt w B p.1 3 xs.length (fun i cs => BdQ w B (xs.getD i default) cs) ∧ SlOk p xs.length
/-- a code by value. -/
def CdAt (w : World) (B : Nat) (v : Value) (c : Cd) : Prop := ∃ p q : Slc, v = .agg #[.slice p.1 c.shared.length p.2, .int .i64 c.mutexes, .slice q.1 c.bodies.length q.2] ∧ VlsAt w B p c.shared ∧ BdsAt w B q c.bodies
theorem VlsAt.below {w w' : World} {B : Nat} {p : Slc} {vs : List Vl} (h : VlsAt w B p vs) (hb : Below B w w') : VlsAt w' B p vs := ⟨h.1.below hb fun _ _ _ h => h, h.2⟩
theorem InsAt.below {w w' : World} {B : Nat} {p : Slc} {vs : List Ins} (h : InsAt w B p vs) (hb : Below B w w') : InsAt w' B p vs := ⟨h.1.below hb fun _ _ _ h => h, h.2⟩
theorem NdQ.below {w w' : World} {B : Nat} {n : Nd} {cs : List Value} (h : NdQ w B n cs) (hb : Below B w w') : NdQ w' B n cs := by
  obtain ⟨p, h1, h2⟩ := h
  exact ⟨p, h1, h2.below hb⟩
theorem NdsAt.below {w w' : World} {B : Nat} {p : Slc} {vs : List Nd} (h : NdsAt w B p vs) (hb : Below B w w') : NdsAt w' B p vs := ⟨h.1.below hb fun _ _ _ h => h.below hb, h.2⟩
theorem BdQ.below {w w' : World} {B : Nat} {n : Bd} {cs : List Value} (h : BdQ w B n cs) (hb : Below B w w') : BdQ w' B n cs := by
  obtain ⟨p, q, h1, h2, h3⟩ := h
  exact ⟨p, q, h1, h2.below hb, h3.below hb⟩
theorem BdsAt.below {w w' : World} {B : Nat} {p : Slc} {vs : List Bd} (h : BdsAt w B p vs) (hb : Below B w w') : BdsAt w' B p vs := ⟨h.1.below hb fun _ _ _ h => h.below hb, h.2⟩
theorem CdAt.below {w w' : World} {B : Nat} {v : Value} {c : Cd} (h : CdAt w B v c) (hb : Below B w w') : CdAt w' B v c := by
  obtain ⟨p, q, h1, h2, h3⟩ := h
  exact ⟨p, q, h1, h2.below hb, h3.below hb⟩
theorem VlsAt.more {w : World} {B B' : Nat} {p : Slc} {vs : List Vl} (h : VlsAt w B p vs) (hb : B ≤ B') : VlsAt w B' p vs := ⟨h.1.more hb fun _ _ _ h => h, h.2⟩
theorem InsAt.more {w : World} {B B' : Nat} {p : Slc} {vs : List Ins} (h : InsAt w B p vs) (hb : B ≤ B') : InsAt w B' p vs := ⟨h.1.more hb fun _ _ _ h => h, h.2⟩
theorem NdQ.more {w : World} {B B' : Nat} {n : Nd} {cs : List Value} (h : NdQ w B n cs) (hb : B ≤ B') : NdQ w B' n cs := by
  obtain ⟨p, h1, h2⟩ := h
  exact ⟨p, h1, h2.more hb⟩
theorem NdsAt.more {w : World} {B B' : Nat} {p : Slc} {vs : List Nd} (h : NdsAt w B p vs) (hb : B ≤ B') : NdsAt w B' p vs := ⟨h.1.more hb fun _ _ _ h => h.more hb, h.2⟩
theorem BdQ.more {w : World} {B B' : Nat} {n : Bd} {cs : List Value} (h : BdQ w B n cs) (hb : B ≤ B') : BdQ w B' n cs := by
  obtain ⟨p, q, h1, h2, h3⟩ := h
  exact ⟨p, q, h1, h2.more hb, h3.more hb⟩
theorem BdsAt.more {w : World} {B B' : Nat} {p : Slc} {vs : List Bd} (h : BdsAt w B p vs) (hb : B ≤ B') : BdsAt w B' p vs := ⟨h.1.more hb fun _ _ _ h => h.more hb, h.2⟩
theorem CdAt.more {w : World} {B B' : Nat} {v : Value} {c : Cd} (h : CdAt w B v c) (hb : B ≤ B') : CdAt w B' v c := by
  obtain ⟨p, q, h1, h2, h3⟩ := h
  exact ⟨p, q, h1, h2.more hb, h3.more hb⟩
end Go.Proofs.Ytbmpjphemjponaa
