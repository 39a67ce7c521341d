/- assizelaw24.call; two tables side by side. -/
import Derived.Test.YtkdkpnidiehdfaaDoorYa
set_option linter.unusedSimpArgs false
set_option linter.unusedVariables false
namespace Go.Proofs.YtkdkpnidiehdfaaDoor
open Go.RowKit

def cav (a : Ca) (A : Option Addr) (n c : Nat) : Value := .agg #[.int .i64 a.kind, .int .i64 a.conn, .slice A n c]
section
variable {w : World} {p m : Nat} {t : Tb}
theorem grown_from {w1 w' : World} (hb : Below w.heap.size w w1) (hg : w1.grownBy w' (some m)) : w.grownBy w' (some m) :=
  ⟨hg.os.trans hb.os, hg.tape.trans hb.tape, hg.output.trans hb.output, Nat.le_trans hb.size hg.size, fun i hi hne => (hg.block i (Nat.lt_of_lt_of_le hi hb.size) hne).trans (hb.block i hi)⟩
set_option maxRecDepth 100000 in
set_option maxHeartbeats 4000000 in
theorem tcall_at (h : TabAt w p m t) (hk : KMem w) (hf : t.bs.length < 1000000) (a : Ca) (hi : inI a.conn) (A : Option Addr) (c : Nat) (n : Nat) (hn : n = a.tok.length) (hl : n ≤ 100000000) (hb : Bs w w.heap.size A a.tok) :
    Calls Tryd.prog 39 #[.pointer (some ⟨p, 0, none⟩), cav a A n c] w fun e w' => e = .returned (.tuple #[.int .i64 (t.call a).1.1, .int .i64 (t.call a).1.2]) ∧ TabAt w' p m (t.call a).2 ∧ w.grownBy w' (some m) := by
  have HC0 : Hid (a.kind = 0 → t.call a = t.auth a.conn a.tok) := Lib.hid (fun h => by unfold Tb.call; rw [if_pos h])
  have HC1 : Hid (a.kind = 1 → t.call a = ((0, (t.leave a.conn).1), (t.leave a.conn).2)) := Lib.hid (fun h => by unfold Tb.call; rw [if_neg (by omega), if_pos h])
  have HC2 : Hid (¬ a.kind = 0 → ¬ a.kind = 1 → t.call a = ((0, 0), t)) := Lib.hid (fun h h2 => by unfold Tb.call; rw [if_neg h, if_neg h2])
  have HAU : Hid (∀ w1, Below w.heap.size w w1 → Calls Tryd.prog 42 #[.pointer (some ⟨p, 0, none⟩), .int .i64 a.conn, .slice A n c] w1 (AuthP w1 p m t a.conn a.tok)) := Lib.hid fun w1 hw => tauth_at (h.below hw) hf hi a.tok n hn hl A c ((hb.below hw).more hw.size) (hk.ext hw)
  have HLE : Hid (∀ w1, Below w.heap.size w w1 → Calls Tryd.prog 44 #[.pointer (some ⟨p, 0, none⟩), .int .i64 a.conn] w1 fun e w' => e = .returned (.int .i64 (t.leave a.conn).1) ∧ TabAt w' p m (t.leave a.conn).2 ∧ w1.grownBy w' (some m)) := Lib.hid fun w1 hw => tleave_at (h.below hw) hi
  have HT := Lib.hid h
  clear h hk hb hn
  unfold AuthP at HAU
  obtain ⟨k, x, tok⟩ := a
  unfold cav
  simp only at HC0 HC1 HC2 HAU HLE ⊢
  generalize hr : t.call ⟨k, x, tok⟩ = r at *
  go_enter Tryd.func39, Tryd.ntmps39
  have hbx := heap_alloc_new w (.cells #[.int .i64 k, .int .i64 x, .slice A n c] 70)
  have hbb := below_alloc w (.cells #[.int .i64 k, .int .i64 x, .slice A n c] 70)
  generalize hw1 : w.alloc (.cells #[.int .i64 k, .int .i64 x, .slice A n c] 70) = w1 at *
  have c0 : w1.cell? ⟨w.heap.size, 0, none⟩ = some (.int .i64 k) := by rw [cell_blk hbx]; rfl
  have c1 : w1.cell? ⟨w.heap.size, 1, none⟩ = some (.int .i64 x) := by rw [cell_blk hbx]; rfl
  have c2 : w1.cell? ⟨w.heap.size, 2, none⟩ = some (.slice A n c) := by rw [cell_blk hbx]; rfl
  have HB := Lib.hid hbb
  clear hbx hbb
  by_cases hk0 : k = 0
  · subst hk0
    have HE := Lib.hid (HC0.out rfl)
    go_wp2_with fail
    refine (HAU.out w1 HB.out).mono ?_
    rintro e w2 ⟨rfl, ht, hg⟩
    have H1 := Lib.hid ht; have H2 := Lib.hid (grown_from HB.out hg)
    clear ht hg
    go_wp2_with fail
    go_ret2
    exact ⟨by rw [HE.out]; rfl, by rw [HE.out]; exact H1.out, H2.out⟩
  · by_cases hk1 : k = 1
    · subst hk1
      have HE := Lib.hid (HC1.out rfl)
      go_wp2_with fail
      refine (HLE.out w1 HB.out).mono ?_
      rintro e w2 ⟨rfl, ht, hg⟩
      have H1 := Lib.hid ht; have H2 := Lib.hid (grown_from HB.out hg)
      clear ht hg
      go_wp2_with fail
      go_ret2
      exact ⟨by rw [HE.out]; rfl, by rw [HE.out]; exact H1.out, H2.out⟩
    · have HE := Lib.hid (HC2.out hk0 hk1)
      have g0 : (k == 0) = false := by rw [beq_eq_false_iff_ne]; exact hk0
      have g1 : (k == 1) = false := by rw [beq_eq_false_iff_ne]; exact hk1
      go_wp2_with fail
      go_ret2
      exact ⟨by rw [HE.out]; rfl, by rw [HE.out]; exact HT.out.below HB.out, grown_below HB.out _⟩
end
/-- two tables. -/
structure Two (w0 w : World) (p m : Nat) (t : Tb) (p2 m2 : Nat) (u : Tb) : Prop where
  one : Ses w0 w p m t
  two : Ses w0 w p2 m2 u
  ne : m ≠ m2
section
variable {w0 w w' : World} {p m p2 m2 : Nat} {t u : Tb}
theorem Two.ext (h : Two w0 w p m t p2 m2 u) (hb : Below w.heap.size w w') : Two w0 w' p m t p2 m2 u := ⟨h.one.ext hb, h.two.ext hb, h.ne⟩
theorem Two.swap (h : Two w0 w p m t p2 m2 u) : Two w0 w p2 m2 u p m t := ⟨h.two, h.one, h.ne.symm⟩
theorem TabAt.other {bs : Zl} (h : TabAt w p2 m2 u) (hm : MapZ Tryd.prog 3 w m bs) (hne : m ≠ m2) (hg : w.grownBy w' (some m)) : TabAt w' p2 m2 u := by
  obtain ⟨A, cap, h1, h2, h3⟩ := h.own
  have hp : p2 ≠ m := by
    rintro rfl
    obtain ⟨es, c, e1, _⟩ := hm
    rw [h1] at e1
    cases e1
  refine ⟨⟨A, cap, (hg.block p2 (lt_blk h1) (by simpa using hp)).trans h1, ?_, h3⟩, h.map.at (hg.block m2 h.ltm (by simpa using fun e => hne e.symm)), h.ok⟩
  refine (h2.keep fun b o v hb hv => ?_).more hg.size
  exact (World.cell?_of_block (hg.block b hb (by simpa using hm.no_cell hv))).trans hv
theorem Two.turn {t' : Tb} (h : Two w0 w p m t p2 m2 u) (ht : TabAt w' p m t') (hg : w.grownBy w' (some m)) : Two w0 w' p m t' p2 m2 u := by
  have h1 := h.one.turn ht hg
  exact ⟨h1, ⟨h.two.tab.other h.one.tab.map h.ne hg, h1.kmem, h1.below, h.two.hm⟩, h.ne⟩
theorem Two.call (h : Two w0 w p m t p2 m2 u) (hf : t.bs.length < 1000000) (a : Ca) (hi : inI a.conn) (A : Option Addr) (c : Nat) (n : Nat) (hn : n = a.tok.length) (hl : n ≤ 100000000) (hb : Bs w w.heap.size A a.tok) :
    Calls Tryd.prog 39 #[.pointer (some ⟨p, 0, none⟩), cav a A n c] w fun e w' => e = .returned (.tuple #[.int .i64 (t.call a).1.1, .int .i64 (t.call a).1.2]) ∧ Two w0 w' p m (t.call a).2 p2 m2 u ∧ w.grownBy w' (some m) := by
  refine (tcall_at h.one.tab h.one.kmem hf a hi A c n hn hl hb).mono ?_
  rintro e w' ⟨he, ht, hg⟩
  exact ⟨he, h.turn ht hg, hg⟩
end
end Go.Proofs.YtkdkpnidiehdfaaDoor
