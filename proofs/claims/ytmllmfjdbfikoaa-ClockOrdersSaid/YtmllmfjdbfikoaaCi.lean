/- clock.Next. -/
import Derived.Test.YtmllmfjdbfikoaaCh
set_option linter.unusedSimpArgs false
set_option linter.unusedVariables false
namespace Go.Proofs.Ytmllmfjdbfikoaa
open Go.RowKit

/-- a slice of its own block, made at once. -/
def NewR (B : Nat) (T : TypeId) (cs : Array Value) (n : Nat) (v : Value) (w : World) : Prop := ∃ g, v = .slice (some ⟨g, 0, none⟩) n n ∧ B ≤ g ∧ w.heap[g]? = some (.cells cs T (0, 0))
theorem NewR.keepsS (B : Nat) (T : TypeId) (cs : Array Value) (n : Nat) : KeepsS (NewR B T cs n) := fun v w w' ⟨g, h1, h2, h3⟩ hb => ⟨g, h1, h2, (hb.block g (lt_blk h3)).trans h3⟩
def OwnRS (B : Nat) (e : TypeId) (sz n : Nat) (xs : List Value) (v : Value) (w : World) : Prop := w.ownsRow B e sz v n xs
theorem OwnRS.keepsS (B : Nat) (e : TypeId) (sz n : Nat) (xs : List Value) : KeepsS (OwnRS B e sz n xs) := fun v w w' h hb => own_belowS h hb
theorem newR_alloc {B n : Nat} {T : TypeId} {cs : Array Value} {w0 W : World} (hW : Below w0.heap.size w0 W) (hB : B ≤ w0.heap.size) : StayS w0.heap.size W (W.alloc (.cells cs T)) ∧ ttHolds (.inr (NewR B T cs n)) (.slice (some ⟨W.heap.size, 0, none⟩) n n) (W.alloc (.cells cs T)) :=
  ⟨StayS.alloc hW _, _, rfl, Nat.le_trans hB hW.size, heap_alloc_new _ _⟩
theorem wrongE_snoc {l : List Ev} {e : Ev} {n : Int} (h : wrongE (l ++ [e]) n = 0) : l.length < 1024 ∧ 1 ≤ n ∧ n ≤ 16 ∧ 0 ≤ e.t ∧ e.t < n := by
  obtain ⟨h1, h2, h3, h4⟩ := wrong_ok h
  have h5 := good_at h4 (i := l.length) (by simp)
  have : ev (l ++ [e]) l.length = e := by simp [ev, List.getD_eq_getElem?_getD]
  rw [this] at h5
  simp at h3
  exact ⟨by omega, h1, h2, h5.1, h5.2⟩
def NextR (n : Nat) (w : World) (R : Nat → Nat) (r : Ending) (w' : World) : Prop :=
  ∃ g cur, r = .returned (.tuple #[.slice (some ⟨g, 0, none⟩) n n, .int .i64 0]) ∧ w.heap.size ≤ g ∧ w'.heap[g]? = some (.cells cur 3 (0, 0)) ∧ (∀ t, t < n → cur[t]? = some (.int .i64 (R t : Nat))) ∧ Below w.heap.size w w'
theorem own_past {w : World} {base sz n : Nat} {e : TypeId} {v : Value} {xs : List Value} (h : w.ownsRow base e sz v n xs) : ∀ k, v.ownBlock = some k → base ≤ k := fun k hk => (h.lt k hk).1
theorem Clk.cks {w : World} {B m n g : Nat} {A : Option Addr} {c : Nat → Nat → Nat} (h : Clk w B A m n c) (hg : B ≤ g) : Cks w A m n c g 0 := fun i hi => by
  obtain ⟨b, o, bi, oi, ci, e, h1, h2, h3, h4⟩ := h i hi
  exact ⟨b, o, bi, oi, ci, e, by omega, h3, .inl (by omega), h4⟩
set_option maxRecDepth 100000 in
set_option maxHeartbeats 4000000 in
theorem next_any (l : List Ev) (m : Nat) (hm : m = l.length) (e : Ev) (n : Nat) (hw : wrongE (l ++ [e]) n = 0) (c : Nat → Nat → Nat) (Ac A : Option Addr) (cc cap : Nat) (w : World) (hc : Clk w w.heap.size Ac m n c) (hA : Evs w w.heap.size A l) (hA0 : A = none → l.length = 0) :
    Calls Try.prog 11 #[.slice Ac m cc, .slice A m cap, .int .i64 n, e.v] w (NextR n w (fun t => nxt l m c e t)) := by
  subst hm
  obtain ⟨q1, q2, q3, q4, q5⟩ := wrongE_snoc hw
  have HC := Lib.hid hc; have HA := Lib.hid hA; have HA0 := Lib.hid hA0; have HW := Lib.hid hw
  clear hc hA hA0 hw
  obtain ⟨et, ek, eo⟩ := e
  have He : Hid (Ev.v ⟨et, ek, eo⟩ = .agg #[.int .i64 et, .int .i64 ek, .int .i64 eo]) := Lib.hid rfl
  rw [He.out]
  dsimp only at q4 q5
  obtain ⟨L, hL⟩ : ∃ L, L = l.length := ⟨_, rfl⟩
  rw [← hL] at HC q1 ⊢
  have HL := Lib.hid hL
  clear hL
  have hmk := fun W => run_make_el EI n n (by simp) (by omega) (by omega) W
  go_enter Try.func11, Try.ntmps11
  go_upto_region 1 with (fail)
  generalize hW2 : World.alloc (World.alloc _ _) _ = w2
  have Hb2 : Hid (Below w.heap.size w w2) := Lib.hid (by subst hW2; exact ((Below.refl _ _).alloc (Nat.le_refl _) _).alloc (by simp) _)
  have Hn2 : Hid (w2.heap[w.heap.size]? = some (.cells #[.int .i64 (n : Int)] 3 (0, 0))) := Lib.hid (by subst hW2; rw [Below.heap_alloc _ _ _ (by simp)]; exact heap_alloc_new _ _)
  have He2 : Hid (w2.heap[w.heap.size + 1]? = some (.cells #[.int .i64 et, .int .i64 ek, .int .i64 eo] 36 (0, 0))) := Lib.hid (by subst hW2; have := heap_alloc_new (w.alloc (.cells #[.int .i64 (n : Int)] 3)) (.cells #[.int .i64 et, .int .i64 ek, .int .i64 eo] 36); simpa using this)
  clear hW2
  have T : Hid (∀ W, Below w2.heap.size w2 W → W.cell? ⟨w.heap.size + 1, 0, none⟩ = some (.int .i64 et) ∧ W.cell? ⟨w.heap.size + 1, 1, none⟩ = some (.int .i64 ek) ∧ W.cell? ⟨w.heap.size + 1, 2, none⟩ = some (.int .i64 eo)) := Lib.hid (fun W hW => by
    have hx := (hW.block _ (lt_blk He2.out)).trans He2.out
    exact ⟨by rw [cell_blk hx]; rfl, by rw [cell_blk hx]; rfl, by rw [cell_blk hx]; rfl⟩)
  apply wp_region_relH (H := []) 4 [.inl _, .inr (OwnRS w2.heap.size 36 3 L (evcells l)), .inl _, .inr (NewR w2.heap.size 36 #[.int .i64 et, .int .i64 ek, .int .i64 eo] 1)] (by kernel_rfl) (by kernel_rfl) (fun _ _ _ _ _ h => h) rfl
  simp only [List.take_succ_cons, List.take_zero, List.drop_succ_cons, List.drop_zero]
  iterate 1 (apply rel_isS; (intro W hW hf; go_simp; first | exact ⟨StayS.refl _ _, rfl⟩ | rfl); simp only [Act.put, List.setIfInBounds_toArray, List.set_cons_succ, List.set_cons_zero])
  refine rel_fitsS (fun W hW hf => rel_callS hW rfl (by go_simp <;> first | rfl | exact ⟨rfl, rfl⟩ | exact ⟨rfl, rfl, rfl⟩) (by rw [HL.out]; exact (clone_events l (by have := HL.out; omega) A cap W ((HA.out.below (Hb2.out.trans (hW.mono Hb2.out.size))).more (Nat.le_trans Hb2.out.size hW.size)) HA0.out).mono fun e W' ⟨v, h1, h2, h3⟩ => ⟨v, h1, h3, ⟨h2.1, h2.2.imp_right fun ⟨g, k, cur, x1, x2, x3⟩ => ⟨g, k, cur, x1, Nat.le_trans hW.size x2, x3⟩⟩⟩)) (OwnRS.keepsS _ _ _ _ _) fun v1 => ?_
  simp only [Act.put, List.setIfInBounds_toArray, List.set_cons_succ, List.set_cons_zero]
  iterate 1 (apply rel_isS; (intro W hW hf; obtain ⟨hx1, hx2, hx3⟩ := T.out W hW; go_simp; first | exact ⟨StayS.refl _ _, rfl⟩ | rfl); simp only [Act.put, List.setIfInBounds_toArray, List.set_cons_succ, List.set_cons_zero])
  refine rel_fitsS (fun W hW hf => ?_) (NewR.keepsS _ _ _ _) fun v2 => ?_
  · go_simp
    exact newR_alloc hW (Nat.le_refl _)
  refine rel_endS ?_
  intro W hW hf
  try simp only [Act.put, List.setIfInBounds_toArray, List.set_cons_succ, List.set_cons_zero]
  have h1 := hf (14, OwnRS w2.heap.size 36 3 L (evcells l) v1) (by simp)
  have h2 := hf (16, NewR w2.heap.size 36 #[.int .i64 et, .int .i64 ek, .int .i64 eo] 1 v2) (by simp)
  obtain ⟨g2, rfl, hg2, hx2⟩ := h2
  have H1 := Lib.hid h1; have Hx2 := Lib.hid hx2; have HbW := Lib.hid hW
  clear h1 hf hx2 hW
  go_wp2_with (at_builtin; refine wpList_append_srcS ES3 rfl (.tmp 14) (.tmp 16) rfl w2.heap.size v1 L (evcells l) rfl H1.out (g2 + 1) (some ⟨g2, 0, none⟩) [.int .i64 et, .int .i64 ek, .int .i64 eo] 1 1 rfl rfl (fun j u hu => ⟨g2, 0, rfl, by omega, by rw [cell_blk Hx2.out]; simpa using hu⟩) (fun h => by cases h) (by intro u hu; simp at hu; rcases hu with rfl | rfl | rfl <;> rfl) (by omega) (by omega) w2 (Nat.le_refl _) HbW.out ?_; intro v3 w3 h2 h3 h4 h5; clear h4 h5; have H3 := Lib.hid h2; have He3 := Lib.hid ((h3.block _ (lt_blk He2.out)).trans He2.out); have Hb3 := Lib.hid (Hb2.out.trans (h3.mono Hb2.out.size)); have Hn3 := Lib.hid ((h3.block _ (lt_blk Hn2.out)).trans Hn2.out); clear h2 h3; obtain ⟨A3, c3, rfl, hr3, hn3, hc3⟩ := own_rdS H3.out; have HA3 := Lib.hid (Evs.of_rd (l := l ++ [⟨et, ek, eo⟩]) (by rw [evcells_app]; exact hr3)); clear hr3 hn3 hc3; have g3 : w3.cell? ⟨w.heap.size, 0, none⟩ = some (.int .i64 (n : Int)) := by rw [cell_blk Hn3.out]; rfl)
  have Hlen : Hid (L + 1 = (l ++ [(⟨et, ek, eo⟩ : Ev)]).length) := Lib.hid (by rw [HL.out]; simp)
  have Hwr := Lib.hid (wrong_any (l ++ [⟨et, ek, eo⟩]) (by have := HL.out; simp; omega) n A3 c3 w3.heap.size w3 HA3.out (Nat.le_refl _))
  rw [← Hlen.out, HW.out] at Hwr
  with_reducible refine Hwr.out.mono ?_
  rintro e' w4 ⟨rfl, hb4⟩
  have Hb4 := Lib.hid (Hb3.out.trans (hb4.mono Hb3.out.size))
  have Hn4 := Lib.hid ((hb4.block _ (lt_blk Hn3.out)).trans Hn3.out)
  have He4 := Lib.hid ((hb4.block _ (lt_blk He3.out)).trans He3.out)
  clear hb4 g3
  have g4 : w4.cell? ⟨w.heap.size, 0, none⟩ = some (.int .i64 (n : Int)) := by rw [cell_blk Hn4.out]; rfl
  have j1 : w4.cell? ⟨w.heap.size + 1, 0, none⟩ = some (.int .i64 et) := by rw [cell_blk He4.out]; rfl
  have j2 : w4.cell? ⟨w.heap.size + 1, 1, none⟩ = some (.int .i64 ek) := by rw [cell_blk He4.out]; rfl
  have j3 : w4.cell? ⟨w.heap.size + 1, 2, none⟩ = some (.int .i64 eo) := by rw [cell_blk He4.out]; rfl
  go_wp2_with fail
  with_reducible refine (contains_next L (by omega) n c w.heap.size Ac cc w.heap.size w4 (HC.out.below Hb4.out) g4).mono ?_
  rintro e' w5 ⟨rfl, rfl⟩
  go_upto_region 8 with (fail)
  generalize hW6 : World.alloc _ _ = w6
  have Hb6 : Hid (Below w.heap.size w w6) := Lib.hid (by subst hW6; exact Hb4.out.trans ((below_alloc _ _).mono Hb4.out.size))
  have Hc6 : Hid (∃ cur, w6.heap[w5.heap.size]? = some (.cells cur 3 (0, 0)) ∧ ∀ t, t < n → cur[0 + t]? = some (.int .i64 0)) := Lib.hid (by
    subst hW6
    exact ⟨_, heap_alloc_new _ _, fun t ht => by simp [ht]⟩)
  have Hg : Hid (w.heap.size ≤ w5.heap.size) := Lib.hid Hb4.out.size
  have Hx6 : Hid (Below w5.heap.size w5 w6) := Lib.hid (by subst hW6; exact below_alloc _ _)
  clear hW6 hmk
  have k1 := (Hx6.out.cell (p := ⟨w.heap.size + 1, 0, none⟩) (lt_blk He4.out)).trans j1
  have k2 := (Hx6.out.cell (p := ⟨w.heap.size + 1, 1, none⟩) (lt_blk He4.out)).trans j2
  have k3 := (Hx6.out.cell (p := ⟨w.heap.size + 1, 2, none⟩) (lt_blk He4.out)).trans j3
  generalize w5.heap.size = g at *
  obtain ⟨cur, hg, hz⟩ := Hc6.out
  have HG := Lib.hid hg; have HZ := Lib.hid hz
  clear hg hz
  have Hnx := Lib.hid (next_at l L HL.out (by omega) ⟨et, ek, eo⟩ n (by omega) ⟨q4, q5⟩ c g 0 n cur Ac L cc (Nat.le_refl _) A cap w.heap.size w6 HG.out HZ.out ((HC.out.below Hb6.out).cks Hg.out) (HA.out.below Hb6.out) Hg.out)
  rw [He.out] at Hnx
  clear j1 j2 j3 g4
  go_wp2_with fail
  with_reducible refine Hnx.out.mono ?_
  rintro e' w7 ⟨rfl, hr⟩
  have Hr := Lib.hid hr
  clear hr
  go_wp2_with fail
  go_ret2
  obtain ⟨cur', h1, h2, h3, h4⟩ := Hr.out.row
  exact ⟨g, cur', rfl, Hg.out, h1, fun t ht => by have := h3 t ht; rwa [Nat.zero_add] at this, Hb6.out.grown Hr.out.grown Hb6.out.size (by intro q e; injection e with e; have := Hg.out; omega)⟩
end Go.Proofs.Ytmllmfjdbfikoaa
