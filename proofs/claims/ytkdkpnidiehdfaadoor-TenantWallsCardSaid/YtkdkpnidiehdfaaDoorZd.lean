/- Table.Who, Leave, Len, Clear; slices.Clone of tenants. -/
import Derived.Test.YtkdkpnidiehdfaaDoorZu
set_option linter.unusedSimpArgs false
set_option linter.unusedVariables false
namespace Go.Proofs.YtkdkpnidiehdfaaDoor
open Go.RowKit

set_option maxRecDepth 100000 in
set_option maxHeartbeats 1000000 in
theorem clone_tens (ts : List Tn) (n : Nat) (hn : n = ts.length) (hl : n ≤ 1000000) (ht : Toks ts) (A : Option Addr) (cap : Nat) (w : World) (hA : Tns w w.heap.size A ts) (hA0 : A = none → n = 0) :
    Calls Tryd.prog 63 #[.slice A n cap] w fun e w' => ∃ v, e = .returned v ∧ w'.ownsRow w.heap.size 77 36 v n (tnc ts) ∧ Below w.heap.size w w' := by
  have hlen := tnc_length ht
  rw [← hn] at hlen
  have HL := Lib.hid hlen; have HR := Lib.hid (hA.rd ht); have HA0 := Lib.hid hA0; have HN := Lib.hid hn
  clear hA hA0 ht hlen hn
  have q22 : ∀ (w : World) (a : Option Addr) (n c n' c' : Nat), (binOp .eql 67 (.slice a n c) (.slice none n' c')).run Tryd.prog w = .ok (.bool a.isNone) w := fun w a n c n' c' => Lib.run_eql_slice_nil w _ _ a n c n' c' ES36.ht
  rcases A with _ | a
  · have hl0 := HA0.out rfl
    subst hl0
    have HT : Hid (tnc ts = []) := Lib.hid (List.eq_nil_of_length_eq_zero HL.out)
    go_enter Tryd.func63, Tryd.ntmps63
    go_wp2_with fail
    go_ret
    exact ⟨_, rfl, ⟨by rw [HT.out]; rfl, .inl ⟨rfl, rfl⟩⟩, Below.refl _ _⟩
  · go_enter Tryd.func63, Tryd.ntmps63
    go_wp2_with (at_builtin; refine wpList_append_srcS ES36 rfl (.tmp 5) (.tmp 6) rfl w.heap.size _ 0 [] rfl (owns0S w _ _ _ (Nat.le_refl _)) w.heap.size (some a) (tnc ts) n cap rfl HL.out (HR.out.keep fun b o hb => World.cell?_alloc_lt _ _ _ hb) (fun h => by cases h) (tnc_one ts) (by omega) (by omega) w (Nat.le_refl _) (below_alloc _ _) ?_; intro v' w' h2 h3 h4 h5; clear h4 h5; have H2 := Lib.hid h2; have H3 := Lib.hid h3; clear h2 h3)
    go_ret
    exact ⟨v', rfl, by simpa using H2.out, H3.out⟩
section
variable {w : World} {p m : Nat} {t : Tb}
set_option maxRecDepth 100000 in
theorem twho_at (h : TabAt w p m t) {x : Int} (hx : inI x) : Calls Tryd.prog 43 #[.pointer (some ⟨p, 0, none⟩), .int .i64 x] w fun e w' => e = .returned (.tuple #[.int .i64 (t.who x).1, .bool (t.who x).2]) ∧ Below w.heap.size w w' := by
  have H0 := Lib.hid (tnone_at h)
  have c1 := h.mcell
  have l1 := h.look_ok hx
  unfold Tb.who
  generalize zget t.bs x = z at *
  clear h
  go_enter Tryd.func43, Tryd.ntmps43
  go_wp2_with fail
  refine H0.out.mono ?_
  rintro e w1 ⟨rfl, hw1⟩
  rw [hw1]
  clear hw1
  go_wp2_with fail
  go_ret2
  exact ⟨rfl, Below.refl _ _⟩
set_option maxRecDepth 100000 in
theorem tlen_at (h : TabAt w p m t) : Calls Tryd.prog 52 #[.pointer (some ⟨p, 0, none⟩)] w fun e w' => e = .returned (.int .i64 t.ts.length) ∧ Below w.heap.size w w' := by
  have H0 := Lib.hid (tnone_at h)
  obtain ⟨A, cap, c0, c1, _, _⟩ := h.cells
  clear h
  go_enter Tryd.func52, Tryd.ntmps52
  go_wp2_with fail
  refine H0.out.mono ?_
  rintro e w1 ⟨rfl, hw1⟩
  rw [hw1]
  clear hw1
  go_wp2_with fail
  go_ret
  exact ⟨rfl, Below.refl _ _⟩
/-- what a writing call leaves: all but the map. -/
theorem TabAt.turned {w' : World} {bs : Zl} (h : TabAt w p m t) (hm : MapZ Tryd.prog 3 w' m bs) (hg : w.grownBy w' (some m)) (hok : (Tb.mk t.ts bs).Ok) : TabAt w' p m ⟨t.ts, bs⟩ := by
  obtain ⟨A, cap, h1, h2, h3⟩ := h.own
  have hne : p ≠ m := by
    rintro rfl
    obtain ⟨es, c, e1, _⟩ := h.map
    rw [h1] at e1
    cases e1
  refine ⟨⟨A, cap, (hg.block p (lt_blk h1) (by simpa using hne)).trans h1, ?_, h3⟩, hm, hok⟩
  refine (h2.keep fun b o v hb hv => ?_).more hg.size
  have hbm : b ≠ m := h.map.no_cell hv
  exact (World.cell?_of_block (hg.block b hb (by simpa using hbm))).trans hv
set_option maxRecDepth 100000 in
theorem tleave_at (h : TabAt w p m t) {x : Int} (hx : inI x) : Calls Tryd.prog 44 #[.pointer (some ⟨p, 0, none⟩), .int .i64 x] w fun e w' => e = .returned (.int .i64 (t.leave x).1) ∧ TabAt w' p m (t.leave x).2 ∧ w.grownBy w' (some m) := by
  have H0 := Lib.hid (tnone_at h)
  have HT := Lib.hid h
  have c1 := h.mcell
  have l1 := h.look_ok hx
  obtain ⟨w2, hrun, hm2, ht2⟩ := h.map.drop intKz Tryd.underlying93 (keyInt hx) 0
  have HM := Lib.hid hm2; have HG := Lib.hid ht2.grown
  have HL : Hid (t.leave x = if (zget t.bs x).isSome then (0, { t with bs := zdel t.bs x }) else (6, t)) := Lib.hid rfl
  have HOK := Lib.hid (h.ok.leave x)
  clear hm2 ht2 h
  generalize hz : zget t.bs x = z at *
  go_enter Tryd.func44, Tryd.ntmps44
  go_wp2_with fail
  refine H0.out.mono ?_
  rintro e w1 ⟨rfl, hw1⟩
  rw [hw1]
  clear hw1
  cases z with
  | none =>
    have HE : Hid (t.leave x = (6, t)) := Lib.hid HL.out
    go_wp2_with fail
    go_ret
    exact ⟨by rw [HE.out]; rfl, by rw [HE.out]; exact HT.out, ⟨rfl, rfl, rfl, Nat.le_refl _, fun _ _ _ => rfl⟩⟩
  | some b =>
    have HE : Hid (t.leave x = (0, { t with bs := zdel t.bs x })) := Lib.hid HL.out
    go_wp2_with fail
    go_ret
    exact ⟨by rw [HE.out]; rfl, by rw [HE.out]; exact HT.out.turned HM.out HG.out (by have := HOK.out; rw [HE.out] at this; exact this), HG.out⟩
set_option maxRecDepth 100000 in
theorem tclear_at (h : TabAt w p m t) : Calls Tryd.prog 50 #[.pointer (some ⟨p, 0, none⟩)] w fun e w' => e = .returned (.int .i64 0) ∧ TabAt w' p m ⟨t.ts, []⟩ ∧ w.grownBy w' (some m) := by
  have H0 := Lib.hid (tnone_at h)
  have HT := Lib.hid h
  have c1 := h.mcell
  obtain ⟨w2, hrun, hm2, hg2⟩ := h.map.wipe Tryd.underlying93 0
  have HM := Lib.hid hm2; have HG := Lib.hid hg2
  clear hm2 hg2 h
  go_enter Tryd.func50, Tryd.ntmps50
  go_wp2_with fail
  refine H0.out.mono ?_
  rintro e w1 ⟨rfl, hw1⟩
  rw [hw1]
  clear hw1
  go_wp2_with fail
  go_ret
  exact ⟨rfl, HT.out.turned HM.out HG.out ⟨by simp [ZRising], by simp, HT.out.ok.ts, HT.out.ok.toks, by simp⟩, HG.out⟩
end
end Go.Proofs.YtkdkpnidiehdfaaDoor
