/- calls of a table, in memory; the plain law of two tenants' walls. -/
import Derived.Test.YtkdkpnidiehdfaaDoorMg3
set_option linter.unusedSimpArgs false
set_option linter.unusedVariables false
namespace Go.Proofs.YtkdkpnidiehdfaaDoor
open Go.RowKit

/-- a call of a table. -/
structure Ca where
  kind : Int
  conn : Int
  tok : List UInt8
def ca0 : Ca := ⟨0, 0, []⟩
def Cas (w : World) (B : Nat) (A : Option Addr) (l : List Ca) : Prop :=
  ∀ i, i < l.length → ∃ b off Ai ci, A = some ⟨b, off, none⟩ ∧ b < B ∧ w.cell? ⟨b, off + i * 3, none⟩ = some (.int .i64 (l.getD i ca0).kind) ∧ w.cell? ⟨b, off + i * 3 + 1, none⟩ = some (.int .i64 (l.getD i ca0).conn) ∧
    w.cell? ⟨b, off + i * 3 + 2, none⟩ = some (.slice Ai (l.getD i ca0).tok.length ci) ∧ Bs w B Ai (l.getD i ca0).tok ∧ (Ai = none → (l.getD i ca0).tok = [])
theorem Cas.below {w w' : World} {B : Nat} {A : Option Addr} {l : List Ca} (h : Cas w B A l) (hb : Below B w w') : Cas w' B A l := fun i hi => by
  obtain ⟨b, off, Ai, ci, e, hB, h1, h2, h3, h4, h5⟩ := h i hi
  exact ⟨b, off, Ai, ci, e, hB, (hb.cell (p := ⟨b, _, none⟩) hB).trans h1, (hb.cell (p := ⟨b, _, none⟩) hB).trans h2, (hb.cell (p := ⟨b, _, none⟩) hB).trans h3, h4.below hb, h5⟩
/-- numbers of their width. -/
def CaW (l : List Ca) : Prop := ∀ a ∈ l, inI a.conn
theorem CaW.get {l : List Ca} (h : CaW l) (i : Nat) : inI (l.getD i ca0).conn := by
  rw [List.getD_eq_getElem?_getD]
  cases he : l[i]? with
  | none => exact inI_small (by decide) (by decide)
  | some x => exact h x (List.mem_of_getElem? he)
def Tb.call (t : Tb) (a : Ca) : (Int × Int) × Tb := if a.kind = 0 then t.auth a.conn a.tok else if a.kind = 1 then ((0, (t.leave a.conn).1), (t.leave a.conn).2) else ((0, 0), t)

def evn (q : Int × Int) : Bool := q.1 % 2 == 0
theorem zget_filter {l : Zl} {x : Int} (hx : x % 2 = 0) : zget (l.filter evn) x = zget l x := by
  induction l with
  | nil => rfl
  | cons q l ih =>
    rw [List.filter_cons, zget_cons]
    by_cases h : evn q = true
    · rw [if_pos h, zget_cons, ih]
    · rw [if_neg h, ih, if_neg]
      simp only [beq_iff_eq]
      rintro rfl
      exact h (by unfold evn; simpa using hx)
theorem zins_cons (x y : Int × Int) (r : Zl) : zins x (y :: r) = if x.1 < y.1 then x :: y :: r else y :: zins x r := rfl
theorem zins_head {x : Int × Int} : ∀ {l : Zl}, (∀ p ∈ l, x.1 < p.1) → zins x l = x :: l
  | [], _ => rfl
  | y :: r, h => by unfold zins; rw [if_pos (h y (List.mem_cons_self ..))]
theorem filter_zins_yes {x : Int × Int} (hx : evn x = true) : ∀ {l : Zl}, ZRising l → (zins x l).filter evn = zins x (l.filter evn)
  | [], _ => by simp [zins, hx]
  | y :: r, h => by
    have h' := List.pairwise_cons.1 h
    rw [zins_cons]
    by_cases hlt : x.1 < y.1
    · rw [if_pos hlt, List.filter_cons, if_pos hx]
      refine (zins_head (fun p hp => ?_)).symm
      rcases List.mem_cons.1 (List.mem_filter.1 hp).1 with rfl | hp'
      · exact hlt
      · have := h'.1 p hp'; omega
    · rw [if_neg hlt, List.filter_cons, List.filter_cons]
      by_cases hy : evn y = true
      · rw [if_pos hy, if_pos hy, filter_zins_yes hx h'.2, zins_cons, if_neg hlt]
      · rw [if_neg hy, if_neg hy, filter_zins_yes hx h'.2]
theorem filter_zins_no {x : Int × Int} (hx : evn x = false) : ∀ {l : Zl}, (zins x l).filter evn = l.filter evn
  | [] => by simp [zins, hx]
  | y :: r => by
    unfold zins
    split
    · rw [List.filter_cons, if_neg (by rw [hx]; simp)]
    · rw [List.filter_cons, List.filter_cons, filter_zins_no hx]
theorem filter_zdel (l : Zl) (x : Int) : (zdel l x).filter evn = zdel (l.filter evn) x := by
  unfold zdel
  rw [List.filter_filter, List.filter_filter]
  congr 1
  funext q
  exact Bool.and_comm _ _
theorem filter_zdel_no {x : Int} (hx : ¬ x % 2 = 0) (l : Zl) : (zdel l x).filter evn = l.filter evn := by
  unfold zdel
  rw [List.filter_filter]
  apply List.filter_congr
  intro q _
  by_cases h : evn q = true
  · rw [h]
    have : q.1 ≠ x := by rintro rfl; unfold evn at h; simp at h; exact hx h
    simp [this]
  · simp [h]
/-- what holds of the two tables. -/
structure WInv (t u : Tb) : Prop where
  ts : t.ts = twoT
  us : u.ts = twoT
  ok : t.Ok
  own : ∀ q ∈ t.bs, (q.2 = 0 ∧ q.1 % 2 = 0) ∨ (q.2 = 1 ∧ ¬ q.1 % 2 = 0)
  same : u.bs = t.bs.filter evn
theorem WInv.conns0 {t u : Tb} (h : WInv t u) : connsOf t.bs 0 = connsOf u.bs 0 := by
  unfold connsOf
  rw [h.same, List.filter_filter]
  congr 1
  apply List.filter_congr
  intro q hq
  rcases h.own q hq with ⟨h1, h2⟩ | ⟨h1, h2⟩
  · simp [h1, evn, h2]
  · simp [h1]
theorem WInv.conns1 {t u : Tb} (h : WInv t u) : connsOf u.bs 1 = [] := by
  unfold connsOf
  rw [h.same, List.filter_filter, List.map_eq_nil_iff, List.filter_eq_nil_iff]
  intro q hq
  rcases h.own q hq with ⟨h1, h2⟩ | ⟨h1, h2⟩
  · simp [h1]
  · simp [evn, h2]
theorem pick_two (d : List UInt8) : pick twoT d 2 = if d = tok2 then 1 else if d = tok1 then 0 else -1 := rfl
theorem tok12 : tok1 ≠ tok2 := by decide
theorem WInv.start : WInv ⟨twoT, []⟩ ⟨twoT, []⟩ := ⟨rfl, rfl, ⟨by simp [ZRising], by simp, by decide, twoT_toks, by simp⟩, by simp, rfl⟩
theorem evn_yes {x v : Int} (h : x % 2 = 0) : evn (x, v) = true := by unfold evn; simpa using h
theorem evn_no {x v : Int} (h : ¬ x % 2 = 0) : evn (x, v) = false := by unfold evn; simpa using h
/-- a call of the first one's. -/
theorem WInv.own_call {t u : Tb} (h : WInv t u) (hf : t.bs.length < 1000000) (a : Ca) (hi : inI a.conn) (hc : a.conn % 2 = 0) (hk : a.kind = 0 → ¬ sha a.tok = tok2) : (t.call a).1 = (u.call a).1 ∧ WInv (t.call a).2 (u.call a).2 := by
  have hz : zget u.bs a.conn = zget t.bs a.conn := by rw [h.same]; exact zget_filter hc
  unfold Tb.call
  by_cases h0 : a.kind = 0
  · rw [if_pos h0, if_pos h0]
    have hok := h.ok.auth hf a.conn hi a.tok
    have hd := hk h0
    have hp : pick twoT (sha a.tok) 2 = if sha a.tok = tok1 then 0 else -1 := by rw [pick_two, if_neg hd]
    have hL : twoT.length = 2 := rfl
    revert hok
    unfold Tb.auth
    rw [h.ts, h.us, hz, hL, hp]
    by_cases hneg : a.conn < 0
    · rw [if_pos hneg, if_pos hneg]; exact fun _ => ⟨rfl, h⟩
    rw [if_neg hneg, if_neg hneg]
    cases hzz : zget t.bs a.conn with
    | some v => simp only [Option.isSome_some, if_true]; exact fun _ => ⟨trivial, h⟩
    | none =>
      simp only [Option.isSome_none, Bool.false_eq_true, if_false]
      by_cases h1 : sha a.tok = tok1
      · simp only [h1, if_true]
        simp only [Int.lt_irrefl, if_false]
        rw [h.conns0]
        split
        · exact fun _ => ⟨rfl, h⟩
        · intro hok
          refine ⟨rfl, ⟨rfl, rfl, hok, ?_, ?_⟩⟩
          · intro q hq
            change q ∈ zput t.bs a.conn 0 at hq
            rw [zput_none hzz] at hq
            rcases zins_mem.1 hq with rfl | hq
            · exact .inl ⟨rfl, hc⟩
            · exact h.own q hq
          · show zput u.bs a.conn 0 = (zput t.bs a.conn 0).filter evn
            rw [zput_none hzz, zput_none (hz.trans hzz), h.same, filter_zins_yes (evn_yes hc) h.ok.rising]
      · simp only [if_neg h1]
        simp only [show ((-1 : Int) < 0) from by decide, if_true]
        exact fun _ => ⟨trivial, h⟩
  · rw [if_neg h0, if_neg h0]
    by_cases h1 : a.kind = 1
    · rw [if_pos h1, if_pos h1]
      have hok := h.ok.leave a.conn
      revert hok
      unfold Tb.leave
      rw [hz]
      cases hzz : (zget t.bs a.conn).isSome with
      | false => exact fun _ => ⟨rfl, h⟩
      | true =>
        intro hok
        refine ⟨rfl, ⟨h.ts, h.us, hok, fun q hq => h.own q (List.mem_filter.1 hq).1, ?_⟩⟩
        show zdel u.bs a.conn = (zdel t.bs a.conn).filter evn
        rw [filter_zdel, h.same]
    · rw [if_neg h1, if_neg h1]
      exact ⟨rfl, h⟩
/-- a call of the second one's. -/
theorem WInv.other_call {t u : Tb} (h : WInv t u) (hf : t.bs.length < 1000000) (a : Ca) (hi : inI a.conn) (hc : ¬ a.conn % 2 = 0) (hk : a.kind = 0 → sha a.tok = tok2) : WInv (t.call a).2 u := by
  unfold Tb.call
  by_cases h0 : a.kind = 0
  · rw [if_pos h0]
    have hok := h.ok.auth hf a.conn hi a.tok
    have hd := hk h0
    have hp : pick twoT (sha a.tok) 2 = 1 := by rw [pick_two, if_pos hd]
    have hL : twoT.length = 2 := rfl
    revert hok
    unfold Tb.auth
    rw [h.ts, hL, hp]
    by_cases hneg : a.conn < 0
    · rw [if_pos hneg]; exact fun _ => h
    rw [if_neg hneg]
    cases hzz : zget t.bs a.conn with
    | some v => simp only [Option.isSome_some, if_true]; exact fun _ => h
    | none =>
      simp only [Option.isSome_none, Bool.false_eq_true, if_false, show ¬ ((1 : Int) < 0) from by decide]
      split
      · exact fun _ => h
      · intro hok
        refine ⟨rfl, h.us, hok, ?_, ?_⟩
        · intro q hq
          change q ∈ zput t.bs a.conn 1 at hq
          rw [zput_none hzz] at hq
          rcases zins_mem.1 hq with rfl | hq
          · exact .inr ⟨rfl, hc⟩
          · exact h.own q hq
        · show u.bs = (zput t.bs a.conn 1).filter evn
          rw [zput_none hzz, filter_zins_no (evn_no hc), h.same]
  · rw [if_neg h0]
    by_cases h1 : a.kind = 1
    · rw [if_pos h1]
      have hok := h.ok.leave a.conn
      revert hok
      unfold Tb.leave
      cases hzz : (zget t.bs a.conn).isSome with
      | false => exact fun _ => h
      | true =>
        intro hok
        refine ⟨h.ts, h.us, hok, fun q hq => h.own q (List.mem_filter.1 hq).1, ?_⟩
        show u.bs = (zdel t.bs a.conn).filter evn
        rw [filter_zdel_no hc, h.same]
    · rw [if_neg h1]
      exact h
theorem Tb.call_length (t : Tb) (a : Ca) : (t.call a).2.bs.length ≤ t.bs.length + 1 := by
  unfold Tb.call
  split
  · exact t.auth_length _ _
  · split
    · exact Nat.le_trans (t.leave_length _) (by omega)
    · show t.bs.length ≤ _
      omega
theorem Tb.Ok.call {t : Tb} (h : t.Ok) (hf : t.bs.length < 1000000) (a : Ca) (hi : inI a.conn) : (t.call a).2.Ok := by
  unfold Tb.call
  split
  · exact h.auth hf _ hi _
  · split
    · exact h.leave _
    · exact h
end Go.Proofs.YtkdkpnidiehdfaaDoor
