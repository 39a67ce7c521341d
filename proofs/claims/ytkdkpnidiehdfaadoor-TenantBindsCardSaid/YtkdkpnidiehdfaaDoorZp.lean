/- plain law of tenants: who is who. -/
import Derived.Test.YtkdkpnidiehdfaaDoorZa
import Derived.Test.YtkdkpnidiehdfaaDoorHash
set_option linter.unusedSimpArgs false
set_option linter.unusedVariables false
namespace Go.Proofs.YtkdkpnidiehdfaaDoor
open Go.RowKit

/-- a tenant. -/
structure Tn where
  nm : List UInt8
  tok : List UInt8
  res : Int
  jobs : Int
  conns : Int
  deriving DecidableEq
def tn0 : Tn := ⟨[], List.replicate 32 0, 0, 0, 0⟩
def okC (c : UInt8) : Bool := (decide (97 ≤ c.toNat) && decide (c.toNat ≤ 122)) || (decide (48 ≤ c.toNat) && decide (c.toNat ≤ 57)) || decide (c.toNat = 45)
def okName (s : List UInt8) : Bool := decide (1 ≤ s.length) && decide (s.length ≤ 16) && s.all okC
/-- is one ahead alike? -/
def twice (ts : List Tn) (i : Nat) : Nat → Bool
  | 0 => false
  | k + 1 => twice ts i k || decide ((ts.getD k tn0).nm = (ts.getD i tn0).nm) || decide ((ts.getD k tn0).tok = (ts.getD i tn0).tok)
def fits (t : Tn) : Bool := decide (60000 ≤ t.res) && decide (t.res ≤ 1048576) && decide (1 ≤ t.jobs) && decide (t.jobs ≤ 64) && decide (1 ≤ t.conns) && decide (t.conns ≤ 16)
def chkAt (ts : List Tn) (i : Nat) : Int :=
  if okName (ts.getD i tn0).nm = false then 5 else if twice ts i i = true then 7 else if fits (ts.getD i tn0) = false then 2 else 0
/-- the first error from the i-th on. -/
def chkTo (ts : List Tn) : Nat → Int
  | 0 => 0
  | i + 1 => if chkTo ts i = 0 then chkAt ts i else chkTo ts i
def chk (ts : List Tn) : Int := if ts.length < 1 ∨ 64 < ts.length then 2 else chkTo ts ts.length
theorem chkTo_stop {ts : List Tn} {i j : Nat} (h : chkTo ts i ≠ 0) (hj : i ≤ j) : chkTo ts j = chkTo ts i := by
  induction hj with
  | refl => rfl
  | step _ ih =>
    rename_i m _
    show (if chkTo ts m = 0 then _ else _) = _
    rw [ih, if_neg h]
theorem chkTo_err {ts : List Tn} {i : Nat} (h0 : chkTo ts i = 0) (hi : i < ts.length) (h : chkAt ts i ≠ 0) : chkTo ts ts.length = chkAt ts i := by
  have h1 : chkTo ts (i + 1) = chkAt ts i := by show (if chkTo ts i = 0 then _ else _) = _; rw [if_pos h0]
  rw [chkTo_stop (by rw [h1]; exact h) (show i + 1 ≤ ts.length by omega), h1]
theorem chkTo_on {ts : List Tn} {i : Nat} (h0 : chkTo ts i = 0) (h : chkAt ts i = 0) : chkTo ts (i + 1) = 0 := by
  show (if chkTo ts i = 0 then _ else _) = _; rw [if_pos h0, h]
theorem okName_take (s : List UInt8) (k : Nat) (h : k < s.length) : (s.take (k + 1)).all okC = ((s.take k).all okC && okC (s.getD k 0)) := by
  rw [List.take_add_one, List.all_append]
  simp [h, List.getD_eq_getElem?_getD]

def inI (x : Int) : Prop := -9223372036854775808 ≤ x ∧ x ≤ 9223372036854775807
/-- a table: its tenants, who is bound to whom. -/
structure Tb where
  ts : List Tn
  bs : Zl
structure Tb.Ok (t : Tb) : Prop where
  rising : ZRising t.bs
  few : t.bs.length ≤ 1000000
  ts : t.ts.length ≤ 64
  toks : ∀ x ∈ t.ts, x.tok.length = 32
  conn : ∀ p ∈ t.bs, inI p.1
def pick (ts : List Tn) (d : List UInt8) : Nat → Int
  | 0 => -1
  | k + 1 => if d = (ts.getD k tn0).tok then (k : Int) else pick ts d k
theorem pick_range (ts : List Tn) (d : List UInt8) : ∀ k, -1 ≤ pick ts d k ∧ pick ts d k < k
  | 0 => by simp [pick]
  | k + 1 => by
    have := pick_range ts d k
    unfold pick
    split <;> omega
def connsOf (bs : Zl) (who : Int) : List Int := (bs.filter fun p => p.2 == who).map (·.1)
theorem connsOf_length (bs : Zl) (who : Int) : (connsOf bs who).length ≤ bs.length := by
  unfold connsOf; rw [List.length_map]; exact List.length_filter_le _ _
/-- what Auth answers, and what is bound behind it. -/
def Tb.auth (t : Tb) (conn : Int) (tok : List UInt8) : (Int × Int) × Tb :=
  if conn < 0 then ((0, 2), t)
  else if (zget t.bs conn).isSome then ((0, 7), t)
  else if pick t.ts (sha tok) t.ts.length < 0 then ((0, 11), t)
  else if (t.ts.getD (pick t.ts (sha tok) t.ts.length).toNat tn0).conns ≤ ((connsOf t.bs (pick t.ts (sha tok) t.ts.length)).length : Int) then ((0, 8), t)
  else ((pick t.ts (sha tok) t.ts.length, 0), { t with bs := zput t.bs conn (pick t.ts (sha tok) t.ts.length) })
def Tb.leave (t : Tb) (conn : Int) : Int × Tb := if (zget t.bs conn).isSome then (0, { t with bs := zdel t.bs conn }) else (6, t)
def Tb.who (t : Tb) (conn : Int) : Int × Bool := ((zget t.bs conn).getD 0, (zget t.bs conn).isSome)

theorem Tb.Ok.leave {t : Tb} (h : t.Ok) (conn : Int) : (t.leave conn).2.Ok := by
  unfold Tb.leave
  split
  · exact ⟨h.rising.del conn, Nat.le_trans (zdel_length _ _) h.few, h.ts, h.toks, fun p hp => h.conn p (List.mem_filter.1 hp).1⟩
  · exact h
theorem Tb.Ok.auth {t : Tb} (h : t.Ok) (hf : t.bs.length < 1000000) (conn : Int) (hc : inI conn) (tok : List UInt8) : (t.auth conn tok).2.Ok := by
  unfold Tb.auth
  split
  · exact h
  · split
    · exact h
    · split
      · exact h
      · split
        · exact h
        · refine ⟨h.rising.put _ _, ?_, h.ts, h.toks, fun p hp => ?_⟩
          · have := zput_length t.bs conn (pick t.ts (sha tok) t.ts.length)
            show (zput _ _ _).length ≤ _
            omega
          · rcases zins_mem.1 hp with rfl | hp
            · exact hc
            · exact h.conn p (List.mem_filter.1 hp).1
theorem Tb.auth_length (t : Tb) (conn : Int) (tok : List UInt8) : (t.auth conn tok).2.bs.length ≤ t.bs.length + 1 := by
  unfold Tb.auth
  split <;> try simp
  split <;> try simp
  split <;> try simp
  split <;> try simp
  exact zput_length _ _ _
theorem Tb.leave_length (t : Tb) (conn : Int) : (t.leave conn).2.bs.length ≤ t.bs.length := by
  unfold Tb.leave
  split
  · exact zdel_length _ _
  · exact Nat.le_refl _
end Go.Proofs.YtkdkpnidiehdfaaDoor
