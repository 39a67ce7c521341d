/- which codes may be. Plain: no program. -/
import Derived.Test.YtbmpjphemjponaaVp
set_option linter.unusedSimpArgs false
set_option linter.unusedVariables false
namespace Go.Proofs.Ytbmpjphemjponaa
open Go.RowKit

def isN (x : Int) : Bool := FloatKind.f64.format.order x.toNat x.toNat != some .eq
def canR (x : Int) : Int := if isN x then 9221120237041090560 else x
def mayR (x : Int) : Bool := canR x == x
def vOk (v : Vl) : Bool := if v.t = 1 then true else if v.t = 2 then decide (v.b ≤ 1) else if v.t = 3 then mayR v.b else false
def wi (n m : Int) : Bool := decide (0 ≤ n) && decide (n < m)
def l0 (v : Vl) : Bool := decide (v.t = 0) && decide (v.b = 0)
def isOp (x : Int) : Bool := decide (3 ≤ x) && decide (x ≤ 19)
def inOk (ns nl : Int) (i : Ins) : Bool :=
  if i.op = 1 then decide (i.arg = 0) && vOk i.l else if i.op = 30 then wi i.arg nl && l0 i.l else if i.op = 31 then wi i.arg ns && l0 i.l
  else if isOp i.op then decide (i.arg = 0) && l0 i.l else false
def ndArg (ns nl mt : Int) (n : Nd) : Bool := if n.kind = 1 then wi n.arg nl else if n.kind = 2 then wi n.arg ns else if n.kind = 3 ∨ n.kind = 4 then wi n.arg mt else decide (n.arg = 0)
def ndOk (ns nl nn mt : Int) (n : Nd) : Bool := (decide (1 ≤ n.kind) && decide (n.kind ≤ 7)) && (ndArg ns nl mt n && (wi n.next (nn + 1) && (if n.kind = 6 then wi n.alt (nn + 1) else decide (n.alt = 0))))
def ndFit (ns nl nn mt : Int) (n : Nd) : Bool := n.code.all (inOk ns nl) && ndOk ns nl nn mt n
def bdFit (ns mt : Int) (b : Bd) : Bool := b.locals.all vOk && (decide (0 ≤ b.stack) && (decide (b.stack ≤ 64) && b.nodes.all (ndFit ns b.locals.length b.nodes.length mt)))
def cdFit (c : Cd) : Bool := decide (0 ≤ c.mutexes) && (decide (c.mutexes ≤ 16) && (c.shared.all vOk && c.bodies.all (bdFit c.shared.length c.mutexes)))
/-! ### types -/
def opn (x : Int) : Nat := if 16 ≤ x then 1 else 2
def rowsL : List (Int × Int × Int × Int) := [(3, 4, 2, 2), (5, 6, 0, 2), (7, 10, 1, 2), (7, 10, 3, 2), (11, 15, 1, 1), (11, 14, 3, 3), (16, 16, 1, 1), (16, 16, 3, 3), (17, 17, 2, 2), (18, 18, 3, 1), (19, 19, 1, 3)]
def rowOk (x t : Int) (r : Int × Int × Int × Int) : Bool := decide (r.1 ≤ x) && (decide (x ≤ r.2.1) && (decide (r.2.2.1 = 0) || decide (r.2.2.1 = t)))
def resF (x t : Int) : List (Int × Int × Int × Int) → Int
  | [] => 0
  | r :: l => if rowOk x t r then r.2.2.2 else resF x t l
def resT (x t : Int) : Int := resF x t rowsL
/-- the types behind an instruction. -/
def stk1 (sh lo : List Vl) (i : Ins) (s : List Int) : Option (List Int) :=
  if i.op = 30 then pushT (lo.getD i.arg.toNat default).t s else if i.op = 31 then pushT (sh.getD i.arg.toNat default).t s
  else if i.op = 1 then pushT i.l.t s
  else if s.length < opn i.op then none
  else if s.getD (s.length - opn i.op) 0 = s.getD (s.length - 1) 0 then pushT (resT i.op (s.getD (s.length - opn i.op) 0)) (s.take (s.length - opn i.op)) else none
where pushT (t : Int) (s : List Int) : Option (List Int) := if t = 0 then none else some (s ++ [t])
def stkL (sh lo : List Vl) : List Ins → List Int → Nat → Option (List Int × Nat)
  | [], s, h => some (s, h)
  | i :: r, s, h => match stk1 sh lo i s with
    | none => none
    | some s' => stkL sh lo r s' (max h s'.length)
def wantT (sh lo : List Vl) (n : Nd) : Option Int := if n.kind = 1 then some (lo.getD n.arg.toNat default).t else if n.kind = 2 then some (sh.getD n.arg.toNat default).t else if n.kind = 5 ∨ n.kind = 6 then some 2 else none
def fitT (s : List Int) : Option Int → Bool
  | some t => decide (s = [t])
  | none => decide (s.length = 0)
def ndTy (sh : List Vl) (b : Bd) (n : Nd) : Bool :=
  match stkL sh b.locals n.code [] 0 with
  | none => false
  | some (s, h) => if b.stack < (h : Int) then false else fitT s (wantT sh b.locals n)
def isF (i : Ins) : Bool := decide (i.op = 31)
def ndTo (n : Nd) : Nat := n.code.countP isF + if n.kind = 2 then 1 else 0
def allN (f : Bd → Nd → Bool) (l : List Bd) : Bool := l.all fun b => b.nodes.all fun n => f b n
def bdLong (b : Bd) : Bool := decide (16 < b.locals.length) || (decide (1024 < b.nodes.length) || b.nodes.any fun n => decide (8192 < n.code.length))
def cdLong (c : Cd) : Bool := decide (c.bodies.length < 1) || (decide (16 < c.bodies.length) || (decide (32 < c.shared.length) || c.bodies.any bdLong))
def chk (c : Cd) : Int := if cdLong c then 3 else if !cdFit c then 2 else if !allN (ndTy c.shared) c.bodies then 9 else if !allN (fun _ n => decide (ndTo n ≤ 1)) c.bodies then 190 else 0
/-! ### of their width -/
def VlIn (v : Vl) : Prop := (0 ≤ v.t ∧ v.t < 256) ∧ (0 ≤ v.b ∧ v.b < 18446744073709551616)
def InIn (i : Ins) : Prop := (0 ≤ i.op ∧ i.op < 256) ∧ VlIn i.l
def VsIn (l : List Vl) : Prop := ∀ i, i < l.length → VlIn (l.getD i default)
def IsIn (l : List Ins) : Prop := ∀ i, i < l.length → InIn (l.getD i default)
def BdIn (b : Bd) : Prop := VsIn b.locals ∧ ∀ i, i < b.nodes.length → IsIn (b.nodes.getD i default).code
def CdIn (c : Cd) : Prop := VsIn c.shared ∧ ∀ i, i < c.bodies.length → BdIn (c.bodies.getD i default)
/-! ### lists, by index -/
theorem all_at {α : Type} [Inhabited α] {f : α → Bool} {l : List α} (h : l.all f = true) {i : Nat} (hi : i < l.length) : f (l.getD i default) = true := by
  rw [List.all_eq_true] at h
  simpa [List.getD_eq_getElem?_getD, List.getElem?_eq_getElem hi] using h l[i] (List.getElem_mem hi)
theorem all_of {α : Type} [Inhabited α] {f : α → Bool} {l : List α} (h : ∀ i, i < l.length → f (l.getD i default) = true) : l.all f = true := by
  rw [List.all_eq_true]
  intro x hx
  obtain ⟨i, hi, rfl⟩ := List.getElem_of_mem hx
  have := h i hi
  simpa [List.getD_eq_getElem?_getD, List.getElem?_eq_getElem hi] using this
theorem all_not {α : Type} [Inhabited α] {f : α → Bool} {l : List α} {i : Nat} (hi : i < l.length) (h : f (l.getD i default) = false) : l.all f = false := by
  cases e : l.all f with
  | false => rfl
  | true => have := all_at e hi; rw [h] at this; cases this
end Go.Proofs.Ytbmpjphemjponaa
