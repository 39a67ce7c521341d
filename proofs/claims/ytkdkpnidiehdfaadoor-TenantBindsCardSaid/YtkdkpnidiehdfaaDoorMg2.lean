/- several texts in one: the reference's table: Who, Conns., the reference's table: Leave., the reference's table: Auth. -/
import Derived.Test.YtkdkpnidiehdfaaDoorYb
import Derived.Test.YtkdkpnidiehdfaaDoorDi
section
set_option linter.unusedSimpArgs false
set_option linter.unusedVariables false
namespace Go.Proofs.YtkdkpnidiehdfaaDoor
open Go.RowKit

def bz (l : Zl) (i : Nat) : Int × Int := l.getD i (0, 0)
/-- a slice of pairs. -/
def Bnds (w : World) (B : Nat) (A : Option Addr) (l : Zl) : Prop := ∀ i, i < l.length → ∃ b off, A = some ⟨b, off, none⟩ ∧ b < B ∧ w.cell? ⟨b, off + i * 2, none⟩ = some (.int .i64 (bz l i).1) ∧ w.cell? ⟨b, off + i * 2 + 1, none⟩ = some (.int .i64 (bz l i).2)
theorem Bnds.below {w w' : World} {B : Nat} {A : Option Addr} {l : Zl} (h : Bnds w B A l) (hb : Below B w w') : Bnds w' B A l := fun i hi => by
  obtain ⟨b, off, e, hB, h1, h2⟩ := h i hi
  exact ⟨b, off, e, hB, (hb.cell (p := ⟨b, _, none⟩) hB).trans h1, (hb.cell (p := ⟨b, _, none⟩) hB).trans h2⟩
theorem Bnds.more {w : World} {B B' : Nat} {A : Option Addr} {l : Zl} (h : Bnds w B A l) (hB : B ≤ B') : Bnds w B' A l := fun i hi => by
  obtain ⟨b, off, e, hb, h1⟩ := h i hi
  exact ⟨b, off, e, by omega, h1⟩
/-- block p is the reference's table. -/
structure RefAt (w : World) (p : Nat) (t : Tb) : Prop where
  own : ∃ A cap Ab cb, w.heap[p]? = some (.cells #[.slice A t.ts.length cap, .slice Ab t.bs.length cb] 89 (0, 0)) ∧ Tns w p A t.ts ∧ t.ts.length ≤ cap ∧ Bnds w w.heap.size Ab t.bs ∧ t.bs.length ≤ cb
  ok : t.Ok
section
variable {w w' : World} {p : Nat} {t : Tb}
theorem RefAt.lt (h : RefAt w p t) : p < w.heap.size := by obtain ⟨A, cap, Ab, cb, h1, _⟩ := h.own; exact lt_blk h1
theorem RefAt.below (h : RefAt w p t) (hb : Below w.heap.size w w') : RefAt w' p t := by
  obtain ⟨A, cap, Ab, cb, h1, h2, h3, h4, h5⟩ := h.own
  exact ⟨⟨A, cap, Ab, cb, (hb.block _ (lt_blk h1)).trans h1, h2.below (hb.mono (Nat.le_of_lt (lt_blk h1))), h3, (h4.below hb).more hb.size, h5⟩, h.ok⟩
theorem zget_at {l : Zl} {x : Int} {i : Nat} (hi : i < l.length) (h : ∀ j, j < i → (bz l j).1 ≠ x) (he : (bz l i).1 = x) : zget l x = some (bz l i).2 := by
  induction l generalizing i with
  | nil => cases hi
  | cons q l ih =>
    rw [zget_cons]
    cases i with
    | zero => rw [if_pos (by simpa [bz] using he)]; rfl
    | succ i =>
      have h0 := h 0 (by omega)
      rw [if_neg (by simpa [bz] using h0)]
      exact ih (by simpa using hi) (fun j hj => by have := h (j + 1) (by omega); simpa [bz] using this) (by simpa [bz] using he)
theorem zget_off {l : Zl} {x : Int} (h : ∀ j, j < l.length → (bz l j).1 ≠ x) : zget l x = none := by
  induction l with
  | nil => rfl
  | cons q l ih =>
    have h0 := h 0 (by simp)
    rw [zget_cons, if_neg (by simpa [bz] using h0)]
    exact ih fun j hj => by have := h (j + 1) (by simpa using hj); simpa [bz] using this
set_option maxRecDepth 100000 in
set_option maxHeartbeats 4000000 in
theorem refwho_at (h : RefAt w p t) (x : Int) : Calls Tryd.prog 70 #[.pointer (some ⟨p, 0, none⟩), .int .i64 x] w fun e w' => e = .returned (.tuple #[.int .i64 (t.who x).1, .bool (t.who x).2]) ∧ Below w.heap.size w w' := by
  obtain ⟨A, cap, Ab, cb, h1, _, _, h4, hcb⟩ := h.own
  have c1 : w.cell? ⟨p, 1, none⟩ = some (.slice Ab t.bs.length cb) := cell_blk h1 1
  have HB := Lib.hid h4
  have HF : Hid (∀ i, i < t.bs.length → (∀ j, j < i → (bz t.bs j).1 ≠ x) → (bz t.bs i).1 = x → t.who x = ((bz t.bs i).2, true)) := Lib.hid fun i hi h2 h3 => by unfold Tb.who; rw [zget_at hi h2 h3]; rfl
  have HO : Hid ((∀ j, j < t.bs.length → (bz t.bs j).1 ≠ x) → t.who x = (0, false)) := Lib.hid fun h2 => by unfold Tb.who; rw [zget_off h2]; rfl
  have hfew := h.ok.few
  clear h h1 h4
  generalize hn : t.bs.length = n at *
  have HN := Lib.hid hn
  clear hn
  generalize t.who x = r at *
  go_enter Tryd.func70, Tryd.ntmps70
  go_wp2_with fail
  go_loopw [6] (fun iv wr => ∃ i : Nat, i ≤ n ∧ iv = .int .i64 i ∧ (∀ j, j < i → (bz t.bs j).1 ≠ x) ∧ wr = w) (fun iv _ => n - (RowKit.intOf iv).toNat)
  case atStart => exact ⟨0, by omega, rfl, fun j hj => by omega, rfl⟩
  case round =>
    obtain ⟨i, hi, rfl, hno, hwr⟩ := hrel
    rw [hwr]
    clear hwr
    have HNO := Lib.hid hno
    clear hno
    by_cases hlt : i < n
    · obtain ⟨b, off, rfl, hb, k1, k2⟩ := HB.out i (by rw [HN.out]; exact hlt)
      have HF2 := Lib.hid (HF.out i hlt HNO.out)
      have HST : Hid (¬ (bz t.bs i).1 = x → ∀ j, j < i + 1 → (bz t.bs j).1 ≠ x) := Lib.hid fun hne j hj => by
        by_cases e : j = i
        · rw [e]; exact hne
        · exact HNO.out j (by omega)
      generalize bz t.bs i = q at *
      obtain ⟨y, z⟩ := q
      simp only at k1 k2 HF2 HST
      by_cases he : y = x
      · have HE := Lib.hid (HF2.out he)
        have g1 : (y == x) = true := by rw [he]; simp
        go_wp2_with fail
        go_ret2
        exact ⟨by rw [HE.out]; rfl, Below.refl _ _⟩
      · have HS2 := Lib.hid (HST.out he)
        have g1 : (y == x) = false := by rw [beq_eq_false_iff_ne]; exact he
        go_wp2_with fail
        go_roundw
        case rel => exact ⟨i + 1, by omega, by go_num, HS2.out, trivial⟩
        case measure => simp [RowKit.intOf]; omega
    · obtain rfl : i = n := by omega
      have HE := Lib.hid (HO.out HNO.out)
      go_wp2_with fail
      go_ret2
      exact ⟨by rw [HE.out]; rfl, Below.refl _ _⟩
theorem EIz : El Tryd.prog 60 3 (.int .i64 0) 8 := ⟨Tryd.underlying60, by kernel_rfl, rfl⟩
theorem conns_step {l : Zl} {i : Nat} (hi : i < l.length) (who : Int) : connsOf (l.take (i + 1)) who = connsOf (l.take i) who ++ (if (bz l i).2 == who then [(bz l i).1] else []) := by
  unfold connsOf
  rw [List.take_succ_eq_append_getElem hi, List.filter_append, List.map_append]
  congr 1
  have e : bz l i = l[i] := by unfold bz; simp [List.getD_eq_getElem?_getD, hi]
  rw [e, List.filter_cons]
  split <;> rfl
set_option maxRecDepth 100000 in
set_option maxHeartbeats 4000000 in
theorem refconns_at (h : RefAt w p t) (who : Int) : Calls Tryd.prog 71 #[.pointer (some ⟨p, 0, none⟩), .int .i64 who] w fun e w' => ∃ v, e = .returned v ∧ w'.ownsRow w.heap.size 3 1 v (connsOf t.bs who).length ((connsOf t.bs who).map encZ) ∧ Below w.heap.size w w' := by
  have HR := Lib.hid h
  have hfew := h.ok.few
  have HFIN : Hid (connsOf (t.bs.take t.bs.length) who = connsOf t.bs who) := Lib.hid (by rw [List.take_length])
  clear h
  generalize hn : t.bs.length = n at *
  have HN := Lib.hid hn
  clear hn
  go_enter Tryd.func71, Tryd.ntmps71
  go_wp2_with fail
  go_loopw [5, 6] (fun ov iv wr => ∃ i : Nat, i ≤ n ∧ iv = .int .i64 i ∧ wr.ownsRow w.heap.size 3 1 ov (connsOf (t.bs.take i) who).length ((connsOf (t.bs.take i) who).map encZ) ∧ Below w.heap.size w wr) (fun _ iv _ => n - (RowKit.intOf iv).toNat)
  case atStart => exact ⟨0, by omega, rfl, ⟨rfl, .inl ⟨rfl, rfl⟩⟩, Below.refl _ _⟩
  case round =>
    obtain ⟨i, hi, rfl, hown, hb⟩ := hrel
    obtain ⟨Av, cv, rfl, _, _, _⟩ := own_rdS hown
    have HO := Lib.hid hown; have HB := Lib.hid hb
    have HR2 := Lib.hid (HR.out.below hb)
    clear hown hb
    obtain ⟨A, cap, Ab, cb, e1, _, _, e4, hcb⟩ := HR2.out.own
    rw [HN.out] at hcb e1
    have c1 : wr.cell? ⟨p, 1, none⟩ = some (.slice Ab n cb) := cell_blk e1 1
    have HBN := Lib.hid e4
    clear e1 e4
    have hcl : (connsOf (t.bs.take i) who).length ≤ 1000000 := by
      have h1 := connsOf_length (t.bs.take i) who
      have h2 := List.length_take_le i t.bs
      rw [List.length_take] at h1
      omega
    by_cases hlt : i < n
    · obtain ⟨b, off, rfl, hbl, k1, k2⟩ := HBN.out i (by rw [HN.out]; exact hlt)
      have HST := Lib.hid (conns_step (l := t.bs) (i := i) (by rw [HN.out]; exact hlt) who)
      generalize bz t.bs i = q at *
      obtain ⟨y, z⟩ := q
      simp only at k1 k2 HST
      generalize connsOf (t.bs.take i) who = cs at *
      by_cases he : z = who
      · have HS2 : Hid (connsOf (t.bs.take (i + 1)) who = cs ++ [y]) := Lib.hid (by rw [HST.out, he]; simp)
        have g1 : (z == who) = true := by rw [he]; simp
        go_wp2_with (at_builtin; refine wpList_append_one0 EIz rfl (.tmp 26) (.tmp 35) rfl w.heap.size (.int .i64 y) rfl _ cs.length (cs.map encZ) rfl HO.out rfl (by omega) (by omega) w (Nat.le_refl _) HB.out ?_; intro v5 w5 h2 h3 h4 h5; clear h4 h5; have O5 := Lib.hid h2; have HB5 := Lib.hid h3; clear h2 h3; obtain ⟨A5, c5, rfl, _, _, _⟩ := own_rdS O5.out)
        go_roundw
        case rel => exact ⟨i + 1, by omega, by go_num, by rw [HS2.out, List.map_append, List.length_append]; exact O5.out, HB5.out⟩
        case measure => simp [RowKit.intOf]; omega
      · have HS2 : Hid (connsOf (t.bs.take (i + 1)) who = cs) := Lib.hid (by rw [HST.out, if_neg (by simpa using he)]; simp)
        have g1 : (z == who) = false := by rw [beq_eq_false_iff_ne]; exact he
        go_wp2_with fail
        go_roundw
        case rel => exact ⟨i + 1, by omega, by go_num, by rw [HS2.out]; exact HO.out, HB.out⟩
        case measure => simp [RowKit.intOf]; omega
    · obtain rfl : i = n := by omega
      go_wp2_with fail
      go_ret
      exact ⟨_, rfl, by rw [← HFIN.out]; exact HO.out, HB.out⟩
end
end Go.Proofs.YtkdkpnidiehdfaaDoor
end

section
set_option linter.unusedSimpArgs false
set_option linter.unusedVariables false
namespace Go.Proofs.YtkdkpnidiehdfaaDoor
open Go.RowKit

theorem ES2b : ElS Tryd.prog 87 117 (.agg #[.int .i64 0, .int .i64 0]) 2 16 := ⟨Tryd.underlying87, by kernel_rfl, rfl, by decide⟩
def bcl (l : Zl) : List Value := l.flatMap fun q => [.int .i64 q.1, .int .i64 q.2]
theorem bcl_app (a b : Zl) : bcl (a ++ b) = bcl a ++ bcl b := by simp [bcl]
theorem bcl_get : ∀ (l : Zl) (i : Nat), i < l.length → (bcl l)[i * 2]? = some (.int .i64 (bz l i).1) ∧ (bcl l)[i * 2 + 1]? = some (.int .i64 (bz l i).2)
  | [], i, h => absurd h (by simp)
  | q :: l, 0, _ => ⟨rfl, rfl⟩
  | q :: l, i + 1, h => by
    have := bcl_get l i (by simpa using h)
    have e : bcl (q :: l) = [.int .i64 q.1, .int .i64 q.2] ++ bcl l := rfl
    have e2 : bz (q :: l) (i + 1) = bz l i := rfl
    rw [e, e2, List.getElem?_append_right (by simp; omega), List.getElem?_append_right (by simp; omega)]
    rw [show (i + 1) * 2 - [Value.int .i64 q.1, Value.int .i64 q.2].length = i * 2 by simp; omega, show (i + 1) * 2 + 1 - [Value.int .i64 q.1, Value.int .i64 q.2].length = i * 2 + 1 by simp; omega]
    exact this
theorem Bnds.of_rd {w : World} {B : Nat} {A : Option Addr} {l : Zl} (h : Rd w B A (bcl l)) : Bnds w B A l := fun i hi => by
  obtain ⟨g1, g2⟩ := bcl_get l i hi
  obtain ⟨b, off, e, hb, h1⟩ := h _ _ g1
  obtain ⟨b2, off2, e2, _, h2⟩ := h _ _ g2
  rw [e] at e2
  injection e2 with e2; injection e2 with a1 a2; subst a1 a2
  exact ⟨b, off, e, hb, h1, by rw [Nat.add_assoc]; exact h2⟩
theorem zdel_step {l : Zl} {i : Nat} (hi : i < l.length) (x : Int) : zdel (l.take (i + 1)) x = zdel (l.take i) x ++ (if (bz l i).1 == x then [] else [bz l i]) := by
  unfold zdel
  rw [List.take_succ_eq_append_getElem hi, List.filter_append]
  congr 1
  have e : bz l i = l[i] := by unfold bz; simp [List.getD_eq_getElem?_getD, hi]
  rw [e, List.filter_cons]
  cases h : l[i].1 == x <;> simp
theorem zdel_less {l : Zl} {x : Int} {v : Int} (h : zget l x = some v) : (zdel l x).length < l.length := by
  induction l with
  | nil => cases h
  | cons q l ih =>
    rw [zget_cons] at h
    unfold zdel
    rw [List.filter_cons]
    by_cases e : (q.1 == x) = true
    · rw [if_neg (by simp [e]), List.length_cons]
      exact Nat.lt_succ_of_le (List.length_filter_le _ _)
    · rw [if_neg e] at h
      rw [if_pos (by simp [e]), List.length_cons, List.length_cons]
      exact Nat.succ_lt_succ (ih h)
section
variable {w w' : World} {p : Nat} {t : Tb}
/-- behind the store of new pairs. -/
theorem RefAt.stored {w1 : World} {bs : Zl} {v : Value} (h : RefAt w p t) (hb : Below w.heap.size w w1) (ho : w1.ownsRow w.heap.size 117 2 v bs.length (bcl bs)) (hok : (Tb.mk t.ts bs).Ok) :
    RefAt (w1.setCell ⟨p, 1, none⟩ v) p ⟨t.ts, bs⟩ ∧ w.grownBy (w1.setCell ⟨p, 1, none⟩ v) (some p) := by
  obtain ⟨A, cap, Ab, cb, h1, h2, h3, _, _⟩ := h.own
  have hp := lt_blk h1
  have h1' := (hb.block _ hp).trans h1
  have hg : w.grownBy (w1.setCell ⟨p, 1, none⟩ v) (some p) := grown_setCell (grown_below hb _) rfl _
  obtain ⟨A2, c2, rfl, hr, _, hle⟩ := own_rdS ho
  refine ⟨⟨⟨A, cap, A2, c2, set_blk h1' 1 _, ?_, h3, ?_, hle⟩, hok⟩, hg⟩
  · refine h2.keep fun b o v hbp hv => ?_
    exact (World.cell?_of_block (hg.block b (by omega) (by simp; omega))).trans hv
  · have hsz : (w1.setCell ⟨p, 1, none⟩ (.slice A2 bs.length c2)).heap.size = w1.heap.size := by simp [World.setCell]
    rw [hsz]
    refine Bnds.of_rd fun j u hu => ?_
    rcases ho.2 with ⟨e, hz⟩ | ⟨g, cap', cur, e, hge, hg1, _, _, _, htk⟩
    · exfalso
      have : bs = [] := List.eq_nil_of_length_eq_zero hz
      subst this
      simp [bcl] at hu
    · injection e with e _ _
      subst e
      obtain ⟨b, off, e2, hb2, hc2⟩ := hr j u hu
      injection e2 with e2; injection e2 with a1 a2; subst a1 a2
      refine ⟨_, 0, rfl, hb2, ?_⟩
      rw [World.cell?_setCell_other _ _ _ _ (fun e => by injection e with e; omega)]
      exact hc2
set_option maxRecDepth 100000 in
set_option maxHeartbeats 4000000 in
theorem refleave_at (h : RefAt w p t) (x : Int) : Calls Tryd.prog 49 #[.pointer (some ⟨p, 0, none⟩), .int .i64 x] w fun e w' => e = .returned (.int .i64 (t.leave x).1) ∧ RefAt w' p (t.leave x).2 ∧ w.grownBy w' (some p) := by
  have HR := Lib.hid h
  have hfew := h.ok.few
  have HLE : Hid (t.leave x = if (zget t.bs x).isSome then (0, { t with bs := zdel t.bs x }) else (6, t)) := Lib.hid rfl
  have HOK := Lib.hid (h.ok.leave x)
  have hpw := h.lt
  clear h
  generalize hn : t.bs.length = n at *
  have HN := Lib.hid hn
  clear hn
  go_enter Tryd.func49, Tryd.ntmps49
  go_wp2_with fail
  go_loopw [5, 6] (fun ov iv wr => ∃ i : Nat, i ≤ n ∧ iv = .int .i64 i ∧ wr.ownsRow w.heap.size 117 2 ov (zdel (t.bs.take i) x).length (bcl (zdel (t.bs.take i) x)) ∧ Below w.heap.size w wr) (fun _ iv _ => n - (RowKit.intOf iv).toNat)
  case atStart => exact ⟨0, by omega, rfl, ⟨rfl, .inl ⟨rfl, rfl⟩⟩, Below.refl _ _⟩
  case round =>
    obtain ⟨i, hi, rfl, hown, hb⟩ := hrel
    obtain ⟨Av, cv, rfl, _, _, _⟩ := own_rdS hown
    have HO := Lib.hid hown; have HB := Lib.hid hb
    have HR2 := Lib.hid (HR.out.below hb)
    clear hown hb
    obtain ⟨A, cap, Ab, cb, e1, _, _, e4, hcb⟩ := HR2.out.own
    rw [HN.out] at hcb e1
    have c1 : wr.cell? ⟨p, 1, none⟩ = some (.slice Ab n cb) := cell_blk e1 1
    have z1 := free_blk e1 1
    have HBN := Lib.hid e4
    clear e1 e4
    have hcl : (zdel (t.bs.take i) x).length ≤ 1000000 := by
      have h1 := zdel_length (t.bs.take i) x
      rw [List.length_take] at h1
      omega
    by_cases hlt : i < n
    · obtain ⟨b, off, rfl, hbl, k1, k2⟩ := HBN.out i (by rw [HN.out]; exact hlt)
      have HST := Lib.hid (zdel_step (l := t.bs) (i := i) (by rw [HN.out]; exact hlt) x)
      generalize bz t.bs i = q at *
      obtain ⟨y, z⟩ := q
      simp only at k1 k2 HST
      generalize zdel (t.bs.take i) x = cs at *
      by_cases he : y = x
      · have HS2 : Hid (zdel (t.bs.take (i + 1)) x = cs) := Lib.hid (by rw [HST.out, he]; simp)
        have g1 : (y != x) = false := by rw [he]; simp
        go_wp2_with fail
        go_roundw
        case rel => exact ⟨i + 1, by omega, by go_num, by rw [HS2.out]; exact HO.out, HB.out⟩
        case measure => simp [RowKit.intOf]; omega
      · have HS2 : Hid (zdel (t.bs.take (i + 1)) x = cs ++ [(y, z)]) := Lib.hid (by rw [HST.out, if_neg (by simpa using he)])
        have g1 : (y != x) = true := by rw [bne_iff_ne]; exact he
        go_wp2_with (at_builtin; refine wpList_append_oneS ES2b [.int .i64 y, .int .i64 z] _ rfl rfl (.tmp 26) (.tmp 34) rfl w.heap.size (by intro u hu; simp at hu; rcases hu with rfl | rfl <;> rfl) 1 rfl _ cs.length (bcl cs) rfl HO.out rfl (by omega) (by omega) w (Nat.le_refl _) HB.out ?_; intro v5 w5 h2 h3 h4 h5; clear h4 h5; have O5 := Lib.hid h2; have HB5 := Lib.hid h3; clear h2 h3; obtain ⟨A5, c5, rfl, _, _, _⟩ := own_rdS O5.out)
        go_roundw
        case rel => exact ⟨i + 1, by omega, by go_num, by rw [HS2.out, bcl_app, List.length_append]; exact O5.out, HB5.out⟩
        case measure => simp [RowKit.intOf]; omega
    · obtain rfl : i = n := by omega
      have HT : Hid (zdel (t.bs.take i) x = zdel t.bs x) := Lib.hid (by rw [List.take_of_length_le (by rw [HN.out]; exact Nat.le_refl _)])
      rw [HT.out] at HO hcl ⊢
      cases hz : zget t.bs x with
      | none =>
        have HE : Hid (t.leave x = (6, t)) := Lib.hid (by rw [HLE.out, hz]; rfl)
        have hl : (zdel t.bs x).length = i := by rw [zdel_none hz, HN.out]
        rw [hl] at HO ⊢
        clear hz
        go_wp2_with fail
        go_ret
        exact ⟨ret_int (by rw [HE.out]), by rw [HE.out]; exact HR2.out, grown_below HB.out _⟩
      | some v =>
        have HE : Hid (t.leave x = (0, { t with bs := zdel t.bs x })) := Lib.hid (by rw [HLE.out, hz]; rfl)
        have hl := zdel_less hz
        rw [HN.out] at hl
        have g1 : (((zdel t.bs x).length : Int) == (i : Int)) = false := by rw [beq_eq_false_iff_ne]; omega
        have HS := Lib.hid (HR.out.stored HB.out HO.out (by have := HOK.out; rw [HE.out] at this; exact this))
        clear hz
        generalize (zdel t.bs x).length = L at *
        go_wp2_with fail
        go_ret
        exact ⟨ret_int (by rw [HE.out]), by rw [HE.out]; exact HS.out.1, HS.out.2⟩
end
end Go.Proofs.YtkdkpnidiehdfaaDoor
end

section
set_option linter.unusedSimpArgs false
set_option linter.unusedVariables false
namespace Go.Proofs.YtkdkpnidiehdfaaDoor
open Go.RowKit

theorem zins_skip {X : Int × Int} : ∀ (a r : Zl), (∀ y ∈ a, ¬ X.1 < y.1) → zins X (a ++ r) = a ++ zins X r
  | [], r, _ => rfl
  | y :: a, r, h => by
    show zins X (y :: (a ++ r)) = _
    rw [zins_cons, if_neg (h y (List.mem_cons_self ..)), zins_skip a r (fun z hz => h z (List.mem_cons_of_mem _ hz))]
    rfl
theorem zins_in {X : Int × Int} : ∀ (a b : Zl), (∃ y ∈ a, X.1 < y.1) → zins X (a ++ b) = zins X a ++ b
  | [], b, h => by obtain ⟨y, hy, _⟩ := h; cases hy
  | y :: a, b, h => by
    show zins X (y :: (a ++ b)) = _
    rw [zins_cons, zins_cons]
    by_cases e : X.1 < y.1
    · rw [if_pos e, if_pos e]; rfl
    · rw [if_neg e, if_neg e, zins_in a b (by
        obtain ⟨z, hz, h2⟩ := h
        rcases List.mem_cons.1 hz with rfl | hz
        · exact absurd h2 e
        · exact ⟨z, hz, h2⟩)]
      rfl
theorem take_bz {l : Zl} {i : Nat} (hi : i < l.length) : l.take (i + 1) = l.take i ++ [bz l i] := by
  rw [List.take_succ_eq_append_getElem hi]
  congr 2
  unfold bz; simp [List.getD_eq_getElem?_getD, hi]
/-- what the loop has laid. -/
def insL (l : Zl) (X : Int × Int) (i : Nat) (c : Bool) : Zl := if c then zins X (l.take i) else l.take i
def InsI (l : Zl) (X : Int × Int) (i : Nat) (c : Bool) : Prop := (c = true → ∃ y ∈ l.take i, X.1 < y.1) ∧ (c = false → ∀ y ∈ l.take i, ¬ X.1 < y.1)
theorem ins_on {l : Zl} {X : Int × Int} {i : Nat} (hi : i < l.length) (h : InsI l X i true) : insL l X (i + 1) true = insL l X i true ++ [bz l i] ∧ InsI l X (i + 1) true := by
  have h1 := h.1 rfl
  refine ⟨by simp only [insL, if_true]; rw [take_bz hi, zins_in _ _ h1], fun _ => ?_, fun e => by cases e⟩
  obtain ⟨y, hy, h2⟩ := h1
  exact ⟨y, by rw [take_bz hi]; exact List.mem_append_left _ hy, h2⟩
theorem ins_yes {l : Zl} {X : Int × Int} {i : Nat} (hi : i < l.length) (h : InsI l X i false) (hx : X.1 < (bz l i).1) : insL l X (i + 1) true = (insL l X i false ++ [X]) ++ [bz l i] ∧ InsI l X (i + 1) true := by
  refine ⟨?_, fun _ => ⟨_, by rw [take_bz hi]; exact List.mem_append_right _ (List.mem_singleton.2 rfl), hx⟩, fun e => by cases e⟩
  simp only [insL, if_true, Bool.false_eq_true, if_false]
  rw [take_bz hi, zins_skip _ _ (h.2 rfl), zins_cons, if_pos hx, List.append_assoc]
  rfl
theorem ins_no {l : Zl} {X : Int × Int} {i : Nat} (hi : i < l.length) (h : InsI l X i false) (hx : ¬ X.1 < (bz l i).1) : insL l X (i + 1) false = insL l X i false ++ [bz l i] ∧ InsI l X (i + 1) false := by
  refine ⟨by simp only [insL, Bool.false_eq_true, if_false]; rw [take_bz hi], (fun e => by cases e), fun _ y hy => ?_⟩
  rw [take_bz hi] at hy
  rcases List.mem_append.1 hy with hy | hy
  · exact h.2 rfl y hy
  · rw [List.mem_singleton.1 hy]; exact hx
theorem ins_end {l : Zl} {X : Int × Int} (h : InsI l X l.length true) : insL l X l.length true = zins X l := by simp only [insL, if_true]; rw [List.take_length]
theorem ins_last {l : Zl} {X : Int × Int} (h : InsI l X l.length false) : insL l X l.length false ++ [X] = zins X l := by
  have h2 := h.2 rfl
  simp only [insL, Bool.false_eq_true, if_false]
  rw [List.take_length] at h2 ⊢
  have := zins_skip l [] h2
  rw [List.append_nil] at this
  rw [this]; rfl
theorem insL_length (l : Zl) (X : Int × Int) (i : Nat) (c : Bool) : (insL l X i c).length ≤ l.length + 1 := by
  unfold insL
  have h := List.length_take_le i l
  split
  · rw [zins_length]; simp; omega
  · rw [List.length_take]; omega
theorem rel_load_dig {B : Nat} {ops : Array Oper} {op : Oper} {a : Act} {w : World} (hw : Region.wanted op (yielded ops a.tmps) = true) (x : Operand) (ho : op.op = .load 25 x) (b o : Nat) (hx : a.eval x = .pointer (some ⟨b, o, none⟩)) (l : List UInt8) (hl : l.length = 32) (hc : w.rangeAt b o (bcells l)) :
    relOpS Tryd.prog B ops op a (.inl (dg l)) w := by
  unfold relOpS
  rw [if_pos hw]
  have hr : (execOp a.eval op).run Tryd.prog w = .ok (.value (dg l)) w := by
    unfold execOp
    simp only [ho, hx, Instr.loadAt, Instr.sureAddr, Sem.run_bind, Sem.run_pure, Result.andThen_ok, run_loadVar_mid (P := Tryd.prog) w b o 25 (bcells l) _ hc Tryd.underlying25 rfl (size32 hl)]
    rfl
  rw [hr]
  exact ⟨StayS.refl _ _, rfl⟩
theorem rel_eql_dig {B : Nat} {ops : Array Oper} {op : Oper} {a : Act} {w : World} (hw : Region.wanted op (yielded ops a.tmps) = true) (x y : Operand) (ho : op.op = .binOp .eql 25 x y 25) (l m : List UInt8) (hl : l.length = 32) (hm : m.length = 32) (hx : a.eval x = dg l) (hy : a.eval y = dg m) (c : Bool) (hc : decide (l = m) = c) :
    relOpS Tryd.prog B ops op a (.inl (.bool c)) w := by
  unfold relOpS
  rw [if_pos hw]
  have h1 := eql_dig l m hl hm w
  have h2 := eqg_dig .eql x y l m w
  rw [hc] at h1
  have hr : (execOp a.eval op).run Tryd.prog w = .ok (.value (.bool c)) w := by
    unfold execOp
    simp only [ho, hx, hy, Sem.run_bind, h1, h2, Result.andThen_ok, Sem.run_pure]
  rw [hr]
  exact ⟨StayS.refl _ _, rfl⟩
section
variable {w : World} {p : Nat} {t : Tb}
set_option maxRecDepth 100000 in
set_option maxHeartbeats 8000000 in
theorem refauth_at (h : RefAt w p t) (hf : t.bs.length < 1000000) {x : Int} (hx : inI x) (tok : List UInt8) (n : Nat) (hn : n = tok.length) (hl : n ≤ 100000000) (A : Option Addr) (cap : Nat) (hA : Bs w w.heap.size A tok) (hA0 : A = none → tok = []) :
    Calls Tryd.prog 48 #[.pointer (some ⟨p, 0, none⟩), .int .i64 x, .slice A n cap] w fun e w' => e = .returned (.tuple #[.int .i64 (t.auth x tok).1.1, .int .i64 (t.auth x tok).1.2]) ∧ RefAt w' p (t.auth x tok).2 ∧ w.grownBy w' (some p) := by
  have HR := Lib.hid h
  have HAU : Hid (t.auth x tok = t.auth x tok) := Lib.hid rfl
  conv at HAU => arg 1; rhs; unfold Tb.auth
  have hlen : t.ts.length ≤ 64 := h.ok.ts
  have HTK : Hid (Toks t.ts) := Lib.hid h.ok.toks
  have HP := Lib.hid (pick_range t.ts (sha tok) t.ts.length)
  have HWHO := Lib.hid (refwho_at h x)
  unfold Tb.who at HWHO
  have HSUM : Hid (∀ W, Below w.heap.size w W → Calls Tryd.prog 17 #[.slice A n cap] W fun e W' => e = .returned (dg (sha tok)) ∧ Below W.heap.size W W') := Lib.hid fun W hW => by
    subst hn
    refine (sum_ref tok hl A cap hA0 W ((hA.below hW).more hW.size)).mono ?_
    rintro e W' ⟨he, hb⟩
    exact ⟨he, hb⟩
  have HSL := Lib.hid (sha_length tok)
  have hpw := h.lt
  have HX := Lib.hid hx
  clear h hA hA0 hn hx
  by_cases hneg : x < 0
  · have HE : Hid (t.auth x tok = ((0, 2), t)) := Lib.hid (by have := HAU.out; rw [if_pos hneg] at this; exact this)
    go_enter Tryd.func48, Tryd.ntmps48
    go_wp2_with fail
    go_ret2
    exact ⟨by rw [HE.out]; rfl, by rw [HE.out]; exact HR.out, grown_below (Below.refl _ _) _⟩
  rw [if_neg hneg] at HAU
  cases hz : (zget t.bs x).isSome with
  | true =>
    have HE : Hid (t.auth x tok = ((0, 7), t)) := Lib.hid (by have := HAU.out; rw [if_pos hz] at this; exact this)
    rw [hz] at HWHO
    go_enter Tryd.func48, Tryd.ntmps48
    go_wp2_with fail
    refine HWHO.out.mono ?_
    rintro e w1 ⟨rfl, hb⟩
    have HB := Lib.hid hb
    clear hb
    go_wp2_with fail
    go_ret2
    exact ⟨by rw [HE.out]; rfl, by rw [HE.out]; exact HR.out.below HB.out, grown_below HB.out _⟩
  | false =>
    rw [hz, if_neg (by simp)] at HAU
    rw [hz] at HWHO
    have HZ := Lib.hid hz
    clear hz
    go_enter Tryd.func48, Tryd.ntmps48
    go_wp2_with fail
    refine HWHO.out.mono ?_
    rintro e w1 ⟨rfl, hb⟩
    have HB1 := Lib.hid hb
    clear hb
    go_wp2_with fail
    refine (HSUM.out w1 HB1.out).mono ?_
    rintro e w2 ⟨rfl, hb⟩
    have HB2 := Lib.hid (HB1.out.trans (hb.mono HB1.out.size))
    clear hb
    unfold dg
    go_wp2_with (refine wpList_store_row (o := ⟨none, .store 25 (.tmp 10) (.tmp 26), _, _, _, _⟩) rfl _ _ _ rfl w2.heap.size (bcells (sha tok)).toArray rfl rfl _ _ (heap_alloc_new _ _) (by rw [List.size_toArray]; exact size32 HSL.out) (by rw [show (bcells (sha tok)).toArray.size = 32 by simp [bcells, HSL.out]]; rfl) (all_oneCell_toArray (bcells_one _)) ?_
                 generalize hw3 : (w2.alloc _).setRow w2.heap.size (bcells (sha tok)).toArray = w3
                 have HX3 : Hid (w3.heap[w2.heap.size]? = some (.cells (bcells (sha tok)).toArray 25 (0, 0))) := Lib.hid (by rw [← hw3]; exact (laid_new _ _ _ _).1)
                 have HB3 : Hid (Below w2.heap.size w2 w3) := Lib.hid (by rw [← hw3]; exact (laid_new _ _ _ _).2.1)
                 clear hw3)
    generalize hg : w2.heap.size = g at *
    have HBW3 : Hid (Below w.heap.size w w3) := Lib.hid (HB2.out.trans (HB3.out.mono (by have := HB2.out.size; omega)))
    obtain ⟨A1, cap1, Ab, cb, e1, hts, hcap, _, _⟩ := (HR.out.below HBW3.out).own
    have HE1 := Lib.hid e1; have HTS := Lib.hid hts
    clear e1 hts
    generalize hsz : t.ts.length = sz at *
    go_loopw [11, 12] (fun wv iv wr => ∃ k : Nat, k ≤ sz ∧ iv = .int .i64 k ∧ wv = .int .i64 (pick t.ts (sha tok) k) ∧ Below w3.heap.size w3 wr) (fun _ iv _ => sz - (RowKit.intOf iv).toNat)
    case atStart => exact ⟨0, by omega, rfl, rfl, Below.refl _ _⟩
    case round =>
      obtain ⟨k, hk, rfl, rfl, hb⟩ := hrel
      have HB := Lib.hid hb
      clear hb
      have c0 : wr.cell? ⟨p, 0, none⟩ = some (.slice A1 sz cap1) := by rw [cell_blk ((HB.out.block _ (lt_blk HE1.out)).trans HE1.out)]; rfl
      by_cases hlt : k < sz
      · obtain ⟨b, off, rfl, hbp, hr⟩ := HTS.out k (by omega)
        have HTI := Lib.hid (HTK.out.get k)
        have hbl3 : b < w3.heap.size := Nat.lt_trans hbp (lt_blk HE1.out)
        have HRD : Hid (∀ W, Below wr.heap.size wr W → (W.cell? ⟨p, 0, none⟩ = some (.slice (some ⟨b, off, none⟩) sz cap1)) ∧ W.rangeAt b (off + k * 36 + 1) (bcells (t.ts.getD k tn0).tok) ∧ W.rangeAt g 0 (bcells (sha tok))) := Lib.hid fun W hW => by
          have e := HB.out.trans (hW.mono HB.out.size)
          refine ⟨by rw [cell_blk ((e.block _ (lt_blk HE1.out)).trans HE1.out)]; rfl, fun j v hv => (e.cell (p := ⟨b, _, none⟩) hbl3).trans (TnAt.tok hr HTI.out j v hv), fun j v hv => ?_⟩
          rw [cell_blk ((e.block _ (lt_blk HX3.out)).trans HX3.out), Nat.zero_add]; simpa using hv
        have HYE : Hid (sha tok = (t.ts.getD k tn0).tok → pick t.ts (sha tok) (k + 1) = k) := Lib.hid pick_yes
        have HNO : Hid (¬ sha tok = (t.ts.getD k tn0).tok → pick t.ts (sha tok) (k + 1) = pick t.ts (sha tok) k) := Lib.hid pick_no
        clear hr
        generalize t.ts.getD k tn0 = u at *
        have hq1 : (k : Int) < (sz : Int) := by omega
        have hcap' : (sz : Int) ≤ (cap1 : Int) := by omega
        go_upto_region 11 with fail
        by_cases htk : u.tok = sha tok
        · have HD : Hid (decide (u.tok = sha tok) = true) := Lib.hid (decide_eq_true htk)
          have HP2 := Lib.hid (HYE.out htk.symm)
          clear htk
          apply wp_region_relS 10 [(Sum.inl _ : TT), (Sum.inl _ : TT), (Sum.inl _ : TT), (Sum.inl _ : TT), (Sum.inl _ : TT), (Sum.inl _ : TT), (Sum.inl _ : TT), (Sum.inl _ : TT), (Sum.inl _ : TT), (Sum.inl _ : TT)] (by kernel_rfl) (by kernel_rfl) rfl
          simp only [List.take_succ_cons, List.take_zero, List.drop_succ_cons, List.drop_zero]
          iterate 7 (apply rel_isS; (intro W hW hf; obtain ⟨x1, x2, x3⟩ := HRD.out W hW; go_simp; first | exact ⟨StayS.refl _ _, rfl⟩ | rfl); simp only [Act.put, List.setIfInBounds_toArray, List.set_cons_succ, List.set_cons_zero])
          apply rel_isS
          · intro W hW hf
            exact rel_load_dig rfl _ rfl b (off + k * 36 + 1) rfl u.tok HTI.out (HRD.out W hW).2.1
          simp only [Act.put, List.setIfInBounds_toArray, List.set_cons_succ, List.set_cons_zero]
          apply rel_isS
          · intro W hW hf
            exact rel_load_dig rfl _ rfl g 0 rfl (sha tok) HSL.out (HRD.out W hW).2.2
          simp only [Act.put, List.setIfInBounds_toArray, List.set_cons_succ, List.set_cons_zero]
          apply rel_isS
          · intro W hW hf
            exact rel_eql_dig rfl _ _ rfl u.tok (sha tok) HTI.out HSL.out rfl rfl _ HD.out
          simp only [Act.put, List.setIfInBounds_toArray, List.set_cons_succ, List.set_cons_zero]
          refine rel_endS ?_
          intro W hW hf
          try simp only [Act.put, List.setIfInBounds_toArray, List.set_cons_succ, List.set_cons_zero]
          have HW4 := Lib.hid (HB.out.trans (hW.mono HB.out.size))
          clear hW hf
          go_wp2_with fail
          go_roundw
          case rel => exact ⟨k + 1, by omega, by go_num, by rw [HP2.out], HW4.out⟩
          case measure => simp [RowKit.intOf]; omega
        · have HD : Hid (decide (u.tok = sha tok) = false) := Lib.hid (decide_eq_false htk)
          have HP2 := Lib.hid (HNO.out fun e => htk e.symm)
          clear htk
          apply wp_region_relS 10 [(Sum.inl _ : TT), (Sum.inl _ : TT), (Sum.inl _ : TT), (Sum.inl _ : TT), (Sum.inl _ : TT), (Sum.inl _ : TT), (Sum.inl _ : TT), (Sum.inl _ : TT), (Sum.inl _ : TT), (Sum.inl _ : TT)] (by kernel_rfl) (by kernel_rfl) rfl
          simp only [List.take_succ_cons, List.take_zero, List.drop_succ_cons, List.drop_zero]
          iterate 7 (apply rel_isS; (intro W hW hf; obtain ⟨x1, x2, x3⟩ := HRD.out W hW; go_simp; first | exact ⟨StayS.refl _ _, rfl⟩ | rfl); simp only [Act.put, List.setIfInBounds_toArray, List.set_cons_succ, List.set_cons_zero])
          apply rel_isS
          · intro W hW hf
            exact rel_load_dig rfl _ rfl b (off + k * 36 + 1) rfl u.tok HTI.out (HRD.out W hW).2.1
          simp only [Act.put, List.setIfInBounds_toArray, List.set_cons_succ, List.set_cons_zero]
          apply rel_isS
          · intro W hW hf
            exact rel_load_dig rfl _ rfl g 0 rfl (sha tok) HSL.out (HRD.out W hW).2.2
          simp only [Act.put, List.setIfInBounds_toArray, List.set_cons_succ, List.set_cons_zero]
          apply rel_isS
          · intro W hW hf
            exact rel_eql_dig rfl _ _ rfl u.tok (sha tok) HTI.out HSL.out rfl rfl _ HD.out
          simp only [Act.put, List.setIfInBounds_toArray, List.set_cons_succ, List.set_cons_zero]
          refine rel_endS ?_
          intro W hW hf
          try simp only [Act.put, List.setIfInBounds_toArray, List.set_cons_succ, List.set_cons_zero]
          have HW4 := Lib.hid (HB.out.trans (hW.mono HB.out.size))
          clear hW hf
          go_wp2_with fail
          go_roundw
          case rel => exact ⟨k + 1, by omega, by go_num, by rw [HP2.out], HW4.out⟩
          case measure => simp [RowKit.intOf]; omega
      · obtain rfl : k = sz := by omega
        have HBW : Hid (Below w.heap.size w wr) := Lib.hid (HBW3.out.trans (HB.out.mono HBW3.out.size))
        by_cases hp0 : pick t.ts (sha tok) k < 0
        · have HE : Hid (t.auth x tok = ((0, 11), t)) := Lib.hid (by have := HAU.out; rw [if_pos hp0] at this; exact this)
          go_wp2_with fail
          go_ret2
          exact ⟨by rw [HE.out]; rfl, by rw [HE.out]; exact HR.out.below HBW.out, grown_below HBW.out _⟩
        rw [if_neg hp0] at HAU
        have hpk : 0 ≤ pick t.ts (sha tok) k ∧ pick t.ts (sha tok) k < k := ⟨by omega, HP.out.2⟩
        obtain ⟨q, hq⟩ : ∃ q : Nat, pick t.ts (sha tok) k = (q : Int) := ⟨(pick t.ts (sha tok) k).toNat, by omega⟩
        rw [hq] at HAU hpk ⊢
        rw [hq] at hp0
        have hqk : q < k := by omega
        rw [Int.toNat_natCast] at HAU
        obtain ⟨b, off, rfl, hbp, hr⟩ := HTS.out q (by omega)
        have HTI := Lib.hid (HTK.out.get q)
        have hbl3 : b < w3.heap.size := Nat.lt_trans hbp (lt_blk HE1.out)
        have HI := Lib.hid hr
        clear hr hq
        generalize t.ts.getD q tn0 = u at *
        have HC : Hid (∀ W, Below wr.heap.size wr W → W.cell? ⟨p, 0, none⟩ = some (.slice (some ⟨b, off, none⟩) k cap1) ∧ W.cell? ⟨b, off + q * 36 + 35, none⟩ = some (.int .i64 u.conns)) := Lib.hid fun W hW => by
          have e := HB.out.trans (hW.mono HB.out.size)
          exact ⟨by rw [cell_blk ((e.block _ (lt_blk HE1.out)).trans HE1.out)]; rfl, (e.cell (p := ⟨b, _, none⟩) hbl3).trans (TnAt.conns HI.out HTI.out)⟩
        have HCN : Hid (∀ W, Below wr.heap.size wr W → Calls Tryd.prog 71 #[.pointer (some ⟨p, 0, none⟩), .int .i64 q] W fun e W' => ∃ v, e = .returned v ∧ LenF (connsOf t.bs q).length v W' ∧ Below W.heap.size W W') := Lib.hid fun W hW => by
          refine (refconns_at (HR.out.below (HBW.out.trans (hW.mono HBW.out.size))) q).mono ?_
          rintro e W' ⟨v, rfl, hrow, hb⟩
          obtain ⟨A, cap, rfl, _⟩ := own_rdS hrow
          exact ⟨_, rfl, ⟨A, cap, rfl⟩, hb⟩
        generalize (connsOf t.bs q).length = L at *
        have hq1 : (q : Int) < (k : Int) := by omega
        have hq0 : (0 : Int) ≤ (q : Int) := by omega
        by_cases hful : u.conns ≤ (L : Int)
        · have HE : Hid (t.auth x tok = ((0, 8), t)) := Lib.hid (by have := HAU.out; rw [if_pos hful] at this; exact this)
          have g1 : decide (u.conns ≤ (L : Int)) = true := decide_eq_true hful
          go_wp2_with fail
          apply wp_region_relS 13 [(Sum.inl _ : TT), (Sum.inl _ : TT), .inr (LenF L), (Sum.inl _ : TT), (Sum.inl _ : TT), (Sum.inl _ : TT), (Sum.inl _ : TT), (Sum.inl _ : TT), (Sum.inl _ : TT), (Sum.inl _ : TT), (Sum.inl _ : TT), (Sum.inl _ : TT), (Sum.inl _ : TT)] (by kernel_rfl) (by kernel_rfl) rfl
          simp only [List.take_succ_cons, List.take_zero, List.drop_succ_cons, List.drop_zero]
          iterate 2 (apply rel_isS; (intro W hW hf; go_simp; first | exact ⟨StayS.refl _ _, rfl⟩ | rfl); simp only [Act.put, List.setIfInBounds_toArray, List.set_cons_succ, List.set_cons_zero])
          refine rel_fitsS (fun W hW hf => rel_callS hW rfl (by go_simp <;> first | rfl | exact ⟨rfl, rfl⟩ | exact ⟨rfl, rfl, rfl⟩) ((HCN.out W hW).mono fun e W' ⟨v, h1, h2, h3⟩ => ⟨v, h1, h3, h2⟩)) (LenF.keepsS _) fun v1 => ?_
          simp only [Act.put, List.setIfInBounds_toArray, List.set_cons_succ, List.set_cons_zero]
          iterate 1 (apply rel_isS; (intro W hW hf; have h0 := hf (51, LenF L v1) (by simp) (by simp [Oper.looksAt, Op.operands, Call.operands]); obtain ⟨A1, k1, rfl⟩ := h0; go_simp; first | exact ⟨StayS.refl _ _, rfl⟩ | rfl); simp only [Act.put, List.setIfInBounds_toArray, List.set_cons_succ, List.set_cons_zero])
          iterate 9 (apply rel_isS; (intro W hW hf; obtain ⟨x1, x2⟩ := HC.out W hW; go_simp; first | exact ⟨StayS.refl _ _, rfl⟩ | rfl); simp only [Act.put, List.setIfInBounds_toArray, List.set_cons_succ, List.set_cons_zero])
          refine rel_endS ?_
          intro W hW hf
          try simp only [Act.put, List.setIfInBounds_toArray, List.set_cons_succ, List.set_cons_zero]
          have HWX := Lib.hid hW
          clear hW hf
          have HWW : Hid (Below w.heap.size w W) := Lib.hid (HBW.out.trans (HWX.out.mono HBW.out.size))
          go_wp2_with fail
          go_ret2
          exact ⟨by rw [HE.out]; rfl, by rw [HE.out]; exact HR.out.below HWW.out, grown_below HWW.out _⟩
        · have HE : Hid (t.auth x tok = (((q : Int), 0), { t with bs := zput t.bs x q })) := Lib.hid (by have := HAU.out; rw [if_neg hful] at this; exact this)
          have g1 : decide (u.conns ≤ (L : Int)) = false := decide_eq_false hful
          have HOK := Lib.hid (HR.out.ok.auth hf x HX.out tok)
          have HZP : Hid (zput t.bs x q = zins (x, (q : Int)) t.bs) := Lib.hid (by
            have := HZ.out
            cases hz2 : zget t.bs x with
            | some v => rw [hz2] at this; cases this
            | none => exact zput_none hz2)
          go_wp2_with fail
          apply wp_region_relS 13 [(Sum.inl _ : TT), (Sum.inl _ : TT), .inr (LenF L), (Sum.inl _ : TT), (Sum.inl _ : TT), (Sum.inl _ : TT), (Sum.inl _ : TT), (Sum.inl _ : TT), (Sum.inl _ : TT), (Sum.inl _ : TT), (Sum.inl _ : TT), (Sum.inl _ : TT), (Sum.inl _ : TT)] (by kernel_rfl) (by kernel_rfl) rfl
          simp only [List.take_succ_cons, List.take_zero, List.drop_succ_cons, List.drop_zero]
          iterate 2 (apply rel_isS; (intro W hW hf; go_simp; first | exact ⟨StayS.refl _ _, rfl⟩ | rfl); simp only [Act.put, List.setIfInBounds_toArray, List.set_cons_succ, List.set_cons_zero])
          refine rel_fitsS (fun W hW hf => rel_callS hW rfl (by go_simp <;> first | rfl | exact ⟨rfl, rfl⟩ | exact ⟨rfl, rfl, rfl⟩) ((HCN.out W hW).mono fun e W' ⟨v, h1, h2, h3⟩ => ⟨v, h1, h3, h2⟩)) (LenF.keepsS _) fun v1 => ?_
          simp only [Act.put, List.setIfInBounds_toArray, List.set_cons_succ, List.set_cons_zero]
          iterate 1 (apply rel_isS; (intro W hW hf; have h0 := hf (51, LenF L v1) (by simp) (by simp [Oper.looksAt, Op.operands, Call.operands]); obtain ⟨A1, k1, rfl⟩ := h0; go_simp; first | exact ⟨StayS.refl _ _, rfl⟩ | rfl); simp only [Act.put, List.setIfInBounds_toArray, List.set_cons_succ, List.set_cons_zero])
          iterate 9 (apply rel_isS; (intro W hW hf; obtain ⟨x1, x2⟩ := HC.out W hW; go_simp; first | exact ⟨StayS.refl _ _, rfl⟩ | rfl); simp only [Act.put, List.setIfInBounds_toArray, List.set_cons_succ, List.set_cons_zero])
          refine rel_endS ?_
          intro W hW hf
          try simp only [Act.put, List.setIfInBounds_toArray, List.set_cons_succ, List.set_cons_zero]
          have HWX := Lib.hid hW
          clear hW hf
          have HWW : Hid (Below w.heap.size w W) := Lib.hid (HBW.out.trans (HWX.out.mono HBW.out.size))
          go_wp2_with fail
          have HRW := Lib.hid (HR.out.below HWW.out)
          have HGW := Lib.hid HWW.out
          have hpW : p < W.heap.size := HRW.out.lt
          obtain ⟨A2, cap2, Ab2, cb2, e1, _, _, e4, hcb2⟩ := HRW.out.own
          generalize hn2 : t.bs.length = nb at *
          have HN2 := Lib.hid hn2; have HE2 := Lib.hid e1; have HBN := Lib.hid e4
          clear hn2 e1 e4
          go_loopw [13, 14, 15] (fun ov cv iv wr => ∃ (i : Nat) (c : Bool), i ≤ nb ∧ iv = .int .i64 i ∧ cv = .bool c ∧ InsI t.bs (x, (q : Int)) i c ∧ wr.ownsRow W.heap.size 117 2 ov (insL t.bs (x, (q : Int)) i c).length (bcl (insL t.bs (x, (q : Int)) i c)) ∧ Below W.heap.size W wr) (fun _ _ iv _ => nb - (RowKit.intOf iv).toNat)
          case atStart => exact ⟨0, false, by omega, rfl, rfl, ⟨(fun e => by cases e), fun _ y hy => by simp at hy⟩, ⟨rfl, .inl ⟨rfl, rfl⟩⟩, Below.refl _ _⟩
          case round =>
            obtain ⟨i, c, hi, rfl, rfl, hins, hown, hb⟩ := hrel
            obtain ⟨Av, cv, rfl, _, _, _⟩ := own_rdS hown
            have HO := Lib.hid hown; have HBI := Lib.hid hb; have HINS := Lib.hid hins
            have hbl := insL_length t.bs (x, (q : Int)) i c
            rw [HN2.out] at hbl
            clear hown hb hins
            have HEW := Lib.hid ((HBI.out.block _ hpW).trans HE2.out)
            have c1 : wr.cell? ⟨p, 1, none⟩ = some (.slice Ab2 nb cb2) := by rw [cell_blk HEW.out]; rfl
            have z1 := free_blk HEW.out 1
            by_cases hlt2 : i < nb
            · have hil : i < t.bs.length := by rw [HN2.out]; exact hlt2
              obtain ⟨b2, off2, hab, hbl2, k1, k2⟩ := HBN.out i hil
              subst hab
              have m1 := (HBI.out.cell (p := ⟨b2, off2 + i * 2, none⟩) hbl2).trans k1
              have m2 := (HBI.out.cell (p := ⟨b2, off2 + i * 2 + 1, none⟩) hbl2).trans k2
              cases c with
              | true =>
                have HST := Lib.hid (ins_on hil HINS.out)
                generalize bz t.bs i = yz at *
                obtain ⟨y, z⟩ := yz
                simp only at k1 k2 m1 m2 HST
                generalize insL t.bs (x, (q : Int)) i true = cs at *
                clear hil
                go_wp2_with (at_builtin; refine wpList_append_oneS ES2b [.int .i64 y, .int .i64 z] _ rfl rfl (.tmp 91) (.tmp 99) rfl W.heap.size (by intro u hu; simp at hu; rcases hu with rfl | rfl <;> rfl) 1 rfl _ cs.length (bcl cs) rfl HO.out rfl (by omega) (by omega) W (Nat.le_refl _) HBI.out ?_; intro v5 w8 h2 h3 h4 h5; clear h4 h5; have O8 := Lib.hid h2; have B8 := Lib.hid h3; clear h2 h3; obtain ⟨A8, c8, rfl, _, _, _⟩ := own_rdS O8.out)
                go_roundw
                case rel => exact ⟨i + 1, true, by omega, by go_num, rfl, HST.out.2, by rw [HST.out.1, bcl_app, List.length_append]; exact O8.out, B8.out⟩
                case measure => simp [RowKit.intOf]; omega
              | false =>
                by_cases hxy : x < (bz t.bs i).1
                · have HST := Lib.hid (ins_yes hil HINS.out hxy)
                  generalize bz t.bs i = yz at *
                  obtain ⟨y, z⟩ := yz
                  simp only at k1 k2 m1 m2 HST hxy
                  generalize insL t.bs (x, (q : Int)) i false = cs at *
                  clear hil
                  go_upto_region 25 with (at_builtin; refine wpList_append_oneS ES2b [.int .i64 x, .int .i64 q] _ rfl rfl (.tmp 85) (.tmp 89) rfl W.heap.size (by intro u hu; simp at hu; rcases hu with rfl | rfl <;> rfl) 1 rfl _ cs.length (bcl cs) rfl HO.out rfl (by omega) (by omega) W (Nat.le_refl _) HBI.out ?_; intro v5 w8 h2 h3 h4 h5; clear h4 h5; have O8 := Lib.hid h2; have B8 := Lib.hid h3; clear h2 h3; obtain ⟨A8, c8, rfl, _, _, _⟩ := own_rdS O8.out)
                  have HE8 := Lib.hid ((B8.out.block _ hpW).trans HE2.out)
                  have d1 : w8.cell? ⟨p, 1, none⟩ = some (.slice (some ⟨b2, off2, none⟩) nb cb2) := by rw [cell_blk HE8.out]; rfl
                  have n1 := (B8.out.cell (p := ⟨b2, off2 + i * 2, none⟩) hbl2).trans k1
                  have n2 := (B8.out.cell (p := ⟨b2, off2 + i * 2 + 1, none⟩) hbl2).trans k2
                  go_wp2_with (at_builtin; refine wpList_append_oneS ES2b [.int .i64 y, .int .i64 z] _ rfl rfl (.tmp 91) (.tmp 99) rfl W.heap.size (by intro u hu; simp at hu; rcases hu with rfl | rfl <;> rfl) 1 rfl _ (cs.length + 1) _ rfl O8.out rfl (by omega) (by omega) W (Nat.le_refl _) B8.out ?_; intro v5 w9 h2 h3 h4 h5; clear h4 h5; have O9 := Lib.hid h2; have B9 := Lib.hid h3; clear h2 h3; obtain ⟨A9, c9, rfl, _, _, _⟩ := own_rdS O9.out)
                  go_roundw
                  case rel => exact ⟨i + 1, true, by omega, by go_num, rfl, HST.out.2, by rw [HST.out.1, bcl_app, bcl_app, List.length_append, List.length_append]; exact O9.out, B9.out⟩
                  case measure => simp [RowKit.intOf]; omega
                · have HST := Lib.hid (ins_no hil HINS.out hxy)
                  generalize bz t.bs i = yz at *
                  obtain ⟨y, z⟩ := yz
                  simp only at k1 k2 m1 m2 HST hxy
                  generalize insL t.bs (x, (q : Int)) i false = cs at *
                  clear hil
                  go_wp2_with (at_builtin; refine wpList_append_oneS ES2b [.int .i64 y, .int .i64 z] _ rfl rfl (.tmp 91) (.tmp 99) rfl W.heap.size (by intro u hu; simp at hu; rcases hu with rfl | rfl <;> rfl) 1 rfl _ cs.length (bcl cs) rfl HO.out rfl (by omega) (by omega) W (Nat.le_refl _) HBI.out ?_; intro v5 w8 h2 h3 h4 h5; clear h4 h5; have O8 := Lib.hid h2; have B8 := Lib.hid h3; clear h2 h3; obtain ⟨A8, c8, rfl, _, _, _⟩ := own_rdS O8.out)
                  go_roundw
                  case rel => exact ⟨i + 1, false, by omega, by go_num, rfl, HST.out.2, by rw [HST.out.1, bcl_app, List.length_append]; exact O8.out, B8.out⟩
                  case measure => simp [RowKit.intOf]; omega
            · obtain rfl : i = nb := by omega
              have hok2 : (Tb.mk t.ts (zput t.bs x (q : Int))).Ok := by have := HOK.out; rw [HE.out] at this; exact this
              cases c with
              | true =>
                have hi2 := HINS.out
                rw [← HN2.out] at hi2
                have hq2 : insL t.bs (x, (q : Int)) i true = zput t.bs x (q : Int) := by rw [HZP.out, ← ins_end hi2, HN2.out]
                have ho2 := HO.out
                rw [hq2] at ho2 ⊢
                have HSt := Lib.hid (HRW.out.stored HBI.out ho2 hok2)
                clear ho2 hq2 hi2 hok2
                generalize (zput t.bs x (q : Int)).length = L2 at *
                go_wp2_with fail
                go_ret2
                exact ⟨by rw [HE.out]; rfl, by rw [HE.out]; exact HSt.out.1, grown_from HGW.out HSt.out.2⟩
              | false =>
                have hi2 := HINS.out
                rw [← HN2.out] at hi2
                have hq2 : insL t.bs (x, (q : Int)) i false ++ [(x, (q : Int))] = zput t.bs x (q : Int) := by rw [HZP.out, ← ins_last hi2, HN2.out]
                have HQ2 := Lib.hid hq2; have HK2 := Lib.hid hok2
                clear hq2 hi2 hok2
                generalize insL t.bs (x, (q : Int)) i false = cs at *
                go_upto_region 28 with (at_builtin; refine wpList_append_oneS ES2b [.int .i64 x, .int .i64 q] _ rfl rfl (.tmp 103) (.tmp 107) rfl W.heap.size (by intro u hu; simp at hu; rcases hu with rfl | rfl <;> rfl) 1 rfl _ cs.length (bcl cs) rfl HO.out rfl (by omega) (by omega) W (Nat.le_refl _) HBI.out ?_; intro v5 w8 h2 h3 h4 h5; clear h4 h5; have O8 := Lib.hid h2; have B8 := Lib.hid h3; clear h2 h3; obtain ⟨A8, c8, rfl, _, _, _⟩ := own_rdS O8.out)
                have HE8 := Lib.hid ((B8.out.block _ hpW).trans HE2.out)
                have d1 : w8.cell? ⟨p, 1, none⟩ = some (.slice Ab2 i cb2) := by rw [cell_blk HE8.out]; rfl
                have z8 := free_blk HE8.out 1
                have HSt := Lib.hid (HRW.out.stored (bs := zput t.bs x (q : Int)) B8.out (by rw [← HQ2.out, bcl_app, List.length_append]; exact O8.out) HK2.out)
                go_wp2_with fail
                go_ret2
                exact ⟨by rw [HE.out]; rfl, by rw [HE.out]; exact HSt.out.1, grown_from HGW.out HSt.out.2⟩
end
end Go.Proofs.YtkdkpnidiehdfaaDoor
end
