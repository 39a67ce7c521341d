/- several texts in one: store.Compact's fifth step., store.Compact., store.Used., store: a broken one; no room; one on its disk. -/
import Derived.Test.YtegekaocbalndaaGreatDoorMg11
import Derived.Test.YtegekaocbalndaaGreatDoorMg12
import Derived.Test.YtegekaocbalndaaGreatDoorMg14
section
set_option linter.unusedSimpArgs false
set_option linter.unusedVariables false
namespace Go.Proofs.YtegekaocbalndaaGreatDoor
open Go.RowKit

theorem Cap.ne {w : World} {v s q p m : Nat} {base : Nm} {R g : Int} {b : Bool} {d : Dk} {L : Lg} (h : Cap w v s q p m base R g b d L) : v ≠ s ∧ v ≠ p ∧ v ≠ m ∧ s ≠ p ∧ s ≠ m ∧ s ≠ q := by
  obtain ⟨cs, T, h1, h2⟩ := h.var
  obtain ⟨n1, n2, n3⟩ := h.sto.st.ne h.sto.disk h.sto.log
  have hc : w.cell? ⟨v, 0, none⟩ = some (.pointer (some ⟨s, 0, none⟩)) := by rw [cell_blk h1]; exact h2
  refine ⟨?_, ?_, ?_, n1, n2, n3⟩
  · rintro rfl
    have := cell_blk h.sto.st 0
    rw [this] at hc
    simp at hc
  · rintro rfl
    have := cell_blk h.sto.disk.own 0
    rw [this] at hc
    simp at hc
  · exact h.sto.disk.raw.no_map hc
/-- what the fifth step's drawn region keeps. -/
structure C5I (w W : World) (v s p m : Nat) (base : Nm) (R g : Int) : Prop where
  bw : Bw w W [p, m, s]
  c0 : W.cell? ⟨v, 0, none⟩ = some (.pointer (some ⟨s, 0, none⟩))
  c1 : W.cell? ⟨s, 0, none⟩ = some (.pointer (some ⟨p, 0, none⟩))
  c2 : W.cell? ⟨s, 1, none⟩ = some (.string (str base))
  c3 : W.cell? ⟨s, 2, none⟩ = some (.int .i64 R)
  c4 : W.cell? ⟨s, 3, none⟩ = some (.int .i64 g)
theorem C5I.below {w W W' : World} {v s p m : Nat} {base : Nm} {R g : Int} (h : C5I w W v s p m base R g) (hb : Below W.heap.size W W') : C5I w W' v s p m base R g :=
  have k : ∀ {b i : Nat} {c : Value}, W.cell? ⟨b, i, none⟩ = some c → W'.cell? ⟨b, i, none⟩ = some c := fun hc => (hb.cell (World.block_lt_of_cell? _ _ hc)).trans hc
  ⟨h.bw.trans (.of_below hb), k h.c0, k h.c1, k h.c2, k h.c3, k h.c4⟩
theorem C5I.step {w W W' : World} {v s p m : Nat} {base : Nm} {R g : Int} (h : C5I w W v s p m base R g) (hb : Dw W W' p m) (n1 : v ≠ p) (n2 : v ≠ m) (n3 : s ≠ p) (n4 : s ≠ m) : C5I w W' v s p m base R g :=
  have k : ∀ {b i : Nat} {c : Value}, b ≠ p → b ≠ m → W.cell? ⟨b, i, none⟩ = some c → W'.cell? ⟨b, i, none⟩ = some c := fun h1 h2 hc => hb.bw.cell hc (by simp [h1, h2])
  ⟨h.bw.trans (hb.bw.more (by simp <;> omega)), k n1 n2 h.c0, k n3 n4 h.c1, k n3 n4 h.c2, k n3 n4 h.c3, k n3 n4 h.c4⟩
def C5T (w : World) (p : Nat) (L : Lg) (v : Value) (W : World) : Prop := ∃ q A n c, v = .tuple #[.pointer (some ⟨q, 0, none⟩), .slice A n c, .int .i64 0] ∧ LogAt W q p L ∧ w.heap.size ≤ q
def C5G (w : World) (p : Nat) (L : Lg) (v : Value) (W : World) : Prop := ∃ q, v = .pointer (some ⟨q, 0, none⟩) ∧ LogAt W q p L ∧ w.heap.size ≤ q
def C5S (s p m : Nat) (base : Nm) (R g : Int) (lv : Value) (b : Bool) (d : Dk) (W : World) : Prop := DiskAt W p m d ∧ StoreAt W s p base R g lv b
def C5E (w : World) (s p m : Nat) (base : Nm) (R g : Int) (b : Bool) (d : Dk) (L : Lg) (W : World) : Prop := DiskAt W p m d ∧ ∃ q, StoreAt W s p base R g (.pointer (some ⟨q, 0, none⟩)) b ∧ LogAt W q p L ∧ w.heap.size ≤ q
def C5R (p m s : Nat) (W W' : World) : Prop := Bw W W' [p, m, s]
theorem log_bw {w W W' : World} {p m s q : Nat} {L : Lg} (h : LogAt W q p L) (hb : Bw W W' [p, m, s]) (hq : w.heap.size ≤ q) (h1 : p < w.heap.size) (h2 : m < w.heap.size) (h3 : s < w.heap.size) : LogAt W' q p L := (hb.block q h.lt (by simp <;> omega)).trans h
theorem C5T.keeps {w : World} {p m s : Nat} {L : Lg} (h1 : p < w.heap.size) (h2 : m < w.heap.size) (h3 : s < w.heap.size) : KeepsF (C5R p m s) (C5T w p L) := by
  rintro v W W' ⟨q, A, n, c, rfl, h4, h5⟩ hb
  exact ⟨q, A, n, c, rfl, log_bw h4 hb h5 h1 h2 h3, h5⟩
theorem C5G.keeps {w : World} {p m s : Nat} {L : Lg} (h1 : p < w.heap.size) (h2 : m < w.heap.size) (h3 : s < w.heap.size) : KeepsF (C5R p m s) (C5G w p L) := by
  rintro v W W' ⟨q, rfl, h4, h5⟩ hb
  exact ⟨q, rfl, log_bw h4 hb h5 h1 h2 h3, h5⟩
theorem C5S.keeps {s p m : Nat} {base : Nm} {R g : Int} {lv : Value} {b : Bool} {d : Dk} : KeepsV (C5S s p m base R g lv b d) := fun W W' h hb => ⟨h.1.below hb, h.2.below hb⟩
theorem C5E.keeps {w : World} {s p m : Nat} {base : Nm} {R g : Int} {b : Bool} {d : Dk} {L : Lg} : KeepsV (C5E w s p m base R g b d L) := by
  rintro W W' ⟨h1, q, h2, h3, h4⟩ hb
  exact ⟨h1.below hb, q, h2.below hb, (hb.block _ h3.lt).trans h3, h4⟩
/-- behind the fifth step. -/
def Comp5P (w : World) (v s p m : Nat) (base : Nm) (R g : Int) (b : Bool) (r : Dk × Nat) (L : Lg) (e : Ending) (w' : World) : Prop := e = .returned (.int .i64 r.2) ∧ (∃ q, Cap w' v s q p m base R g b r.1 L ∧ w.heap.size ≤ q) ∧ Bw w w' [p, m, s]
set_option maxRecDepth 100000 in
set_option maxHeartbeats 4000000 in
theorem comp5_at {w : World} {v s q p m : Nat} {base : Nm} {R : Nat} {g : Nat} {b : Bool} {d : Dk} {L : Lg} (h : Cap w v s q p m base R (g : Nat) b d L) (hR : R ≤ 67108864) (hb : base.length ≤ 500) (hw : d.writes < 10000000000) (hg : g ≤ 89) (L' : Lg) (hlo : (lopen d (logN base (g + 1)) ((R / 3 : Nat) : Int)).e = 0) (hL' : (lopen d (logN base (g + 1)) ((R / 3 : Nat) : Int)).l = some L') (hlen : (d.file (logN base (g + 1))).b.length ≤ 1000000) (hwl : (lopen d (logN base (g + 1)) ((R / 3 : Nat) : Int)).d.writes < 10000000000) :
    Calls Tryz.prog 47 #[.pointer (some ⟨v, 0, none⟩)] w (Comp5P w v s p m base R ((g : Int) + 1) b (rmv (lopen d (logN base (g + 1)) ((R / 3 : Nat) : Int)).d [logN base g]) L') := by
  obtain ⟨n1, n2, n3, n4, n5, n6⟩ := h.ne
  obtain ⟨cs, TV, hv1, hv2⟩ := h.var
  have hvs := lt_blk hv1
  have hss := lt_blk h.sto.st
  have hps := h.sto.disk.lt; have hms := h.sto.disk.ltm
  obtain ⟨t0, t1, t2, t3, t4⟩ := h.cells (Below.refl _ _)
  have fz := fun i => free_blk h.sto.st i
  have hwg : IntKind.i64.wrap ((g : Int) + 1) = ((g : Int) + 1) := wi64 _ (by omega) (by omega)
  have HD1 : Hid (DiskAt (w.setCell ⟨s, 3, none⟩ (.int .i64 ((g : Int) + 1))) p m d) := Lib.hid (h.sto.disk.set t4 rfl n4 _)
  have HS1 : Hid (StoreAt (w.setCell ⟨s, 3, none⟩ (.int .i64 ((g : Int) + 1))) s p base R ((g : Int) + 1) (.pointer (some ⟨q, 0, none⟩)) b) := Lib.hid (set_blk h.sto.st 3 _)
  have HV1 : Hid ((w.setCell ⟨s, 3, none⟩ (.int .i64 ((g : Int) + 1))).heap[v]? = some (.cells cs TV (0, 0))) := Lib.hid ((Below.heap_setCell _ _ _ _ (by simpa using n1)).trans hv1)
  have HB1 : Hid (Bw w (w.setCell ⟨s, 3, none⟩ (.int .i64 ((g : Int) + 1))) [p, m, s]) := Lib.hid (((Ow.refl w s).set 3 (.int .i64 ((g : Int) + 1))).bw.more (by simp))
  have HLO := Lib.hid (fun W (hW : DiskAt W p m d) => open_at hW (by omega) (logN base (g + 1)) (by have := logN_len hb (g + 1); omega) ((R / 3 : Nat) : Int) hlen)
  have HL := Lib.hid hL'; have HE := Lib.hid hlo; have HV2 := Lib.hid hv2; have HWL := Lib.hid hwl
  clear h hlen hlo hL' hwl hv1 hv2
  generalize lopen d (logN base (g + 1)) ((R / 3 : Nat) : Int) = lo at *
  obtain ⟨dl, ll, lls, le⟩ := lo
  obtain rfl : ll = some L' := HL.out
  obtain rfl : le = 0 := HE.out
  clear HL HE
  simp only at HLO HWL ⊢
  go_enter Tryz.func47, Tryz.ntmps47
  go_upto_region 2 with (fail)
  clear t0 t1 t2 t3 t4 fz
  have hsz1 : w.heap.size ≤ (w.setCell ⟨s, 3, none⟩ (.int .i64 ((g : Int) + 1))).heap.size := HB1.out.size
  generalize w.setCell ⟨s, 3, none⟩ (.int .i64 ((g : Int) + 1)) = w1 at *
  obtain ⟨u0, u1, u2, u3, u4, u5⟩ := HS1.out.cells (Below.refl _ _)
  have HI : C5I w1 w1 v s p m base R ((g : Int) + 1) := ⟨.refl _ _, by rw [cell_blk HV1.out]; exact HV2.out, u0, u1, u2, u3⟩
  have HS0 : C5S s p m base R ((g : Int) + 1) (.pointer (some ⟨q, 0, none⟩)) b d w1 := ⟨HD1.out, HS1.out⟩
  have LP : Hid (∀ W, C5I w1 W v s p m base R ((g : Int) + 1) → Calls Tryz.prog 29 #[.pointer (some ⟨s, 0, none⟩), .int .i64 ((g : Int) + 1)] W fun e W' => e = .returned (.string (str (logN base (g + 1)))) ∧ C5I w1 W' v s p m base R ((g : Int) + 1) ∧ Below W.heap.size W W') := Lib.hid (fun W hW => by
    have := logof_at s base (by omega) (g + 1) (by omega) W (fun W' hW' => (hW.below hW').c2)
    rw [show ((g + 1 : Nat) : Int) = (g : Int) + 1 by omega] at this
    exact this.mono fun e w' ⟨h1, h2⟩ => ⟨h1, hW.below h2, h2⟩)
  clear u0 u1 u2 u3 u4 u5
  have hR5 : IntKind.i64.wrap ((R : Int) / 3) = (R : Int) / 3 := wi64 _ (by omega) (by omega)
  have hR4 : Hid (((R : Int) / 3) = ((R / 3 : Nat) : Int)) := Lib.hid (by omega)
  apply wp_region_relN (fun W => C5I w1 W v s p m base R ((g : Int) + 1)) (C5S s p m base R ((g : Int) + 1) (.pointer (some ⟨q, 0, none⟩)) b d) (C5R p m s) 24 [(Sum.inl _ : TG), (Sum.inl _ : TG), (Sum.inl _ : TG), (Sum.inl _ : TG), (Sum.inl _ : TG), (Sum.inl _ : TG), (Sum.inl _ : TG), (Sum.inl _ : TG), (Sum.inl _ : TG), (Sum.inl _ : TG), (Sum.inl _ : TG), (Sum.inl _ : TG), (Sum.inl _ : TG), (Sum.inl _ : TG), (Sum.inl _ : TG), (Sum.inl _ : TG), (Sum.inr (C5T w1 p L', some (fun _ => C5S s p m base R ((g : Int) + 1) (.pointer (some ⟨q, 0, none⟩)) b dl)) : TG), (Sum.inr (C5T w1 p L', none) : TG), (Sum.inr (C5G w1 p L', none) : TG), (Sum.inr (fun _ _ => True, none) : TG), (Sum.inr (fun _ _ => True, none) : TG), (Sum.inl _ : TG), (Sum.inl _ : TG), (Sum.inr (fun _ _ => True, some (fun _ => C5E w1 s p m base R ((g : Int) + 1) b dl L')) : TG)] [false, false, false, false, false, false, false, false, false, false, false, false, false, false, false, false, true, false, false, false, false, false, false, true] (by kernel_rfl) (by kernel_rfl) (by kernel_rfl) rfl rfl rfl [23] (by kernel_rfl) (by intro i hi T hT; simp only [List.mem_cons, List.not_mem_nil, or_false] at hi; subst hi; cases hT; exact ⟨fun _ _ => trivial, fun _ => rfl⟩) (fun _ _ h => Bw.of_below h) (C5S.keeps) (HI.below (Below.refl _ _).drew) (C5S.keeps _ _ HS0 (Below.refl _ _).drew)
  simp only [List.take_succ_cons, List.take_zero, List.drop_succ_cons, List.drop_zero]
  iterate 10 (apply rel_isG; (intro W hW hf; obtain ⟨_, x0, x1, x2, x3, x4⟩ := id hW; go_simp; first | exact ⟨⟨hW, Below.refl _ _⟩, rfl⟩ | exact ⟨Below.refl _ _, rfl⟩ | rfl); simp only [Act.put, List.setIfInBounds_toArray, List.set_cons_succ, List.set_cons_zero])
  apply rel_isG
  · intro W hW hf
    exact rel_callV rfl (by go_simp <;> exact ⟨rfl, rfl⟩) (LP.out W hW)
  simp only [Act.put, List.setIfInBounds_toArray, List.set_cons_succ, List.set_cons_zero]
  iterate 5 (apply rel_isG; (intro W hW hf; obtain ⟨_, x0, x1, x2, x3, x4⟩ := id hW; go_simp; first | exact ⟨⟨hW, Below.refl _ _⟩, rfl⟩ | exact ⟨Below.refl _ _, rfl⟩ | rfl); simp only [Act.put, List.setIfInBounds_toArray, List.set_cons_succ, List.set_cons_zero])
  apply rel_effG
  · intro W hW hS hf
    refine rel_callG rfl (by go_simp <;> exact ⟨rfl, rfl⟩) ?_
    rw [hR4.out]
    obtain ⟨hS1, hS2⟩ := hS
    with_reducible refine (HLO.out W hS1).mono ?_
    rintro e W' ⟨h1, h2, pv, A, c, rfl, _, _, _, hlv⟩
    obtain ⟨q2, rfl, h4, h5⟩ := hlv
    have h6 : w1.heap.size ≤ q2 := Nat.le_trans hW.bw.size h5
    exact ⟨_, rfl, hW.step h2 n2 n3 n4 n5, ⟨q2, A, _, c, rfl, h4, h6⟩, h2.bw.more (by simp <;> omega), h1, hS2.keep hS1 h2⟩
  · exact C5T.keeps (by omega) (by omega) (by omega)
  · exact fun _ => C5S.keeps
  intro v26
  simp only [Act.put, List.setIfInBounds_toArray, List.set_cons_succ, List.set_cons_zero]
  apply rel_newG
  · intro W hW hf
    have h := hf (26, C5T w1 p L' v26) (by simp) (by simp [Oper.looksAt, Op.operands, Call.operands])
    refine rel_valG (v := v26) (W' := W) rfl (by go_simp) ?_
    exact ⟨hW, h, Below.refl _ _⟩
  · exact C5T.keeps (by omega) (by omega) (by omega)
  intro v9
  simp only [Act.put, List.setIfInBounds_toArray, List.set_cons_succ, List.set_cons_zero]
  apply rel_newG
  · intro W hW hf
    obtain ⟨q2, A, n, c, rfl, h4, h5⟩ := hf (9, C5T w1 p L' v9) (by simp) (by simp [Oper.looksAt, Op.operands, Call.operands])
    refine rel_valG (v := .pointer (some ⟨q2, 0, none⟩)) (W' := W) rfl (by go_simp) ?_
    exact ⟨hW, ⟨q2, rfl, h4, h5⟩, Below.refl _ _⟩
  · exact C5G.keeps (by omega) (by omega) (by omega)
  intro v27
  simp only [Act.put, List.setIfInBounds_toArray, List.set_cons_succ, List.set_cons_zero]
  apply rel_newG
  · intro W hW hf
    obtain ⟨q2, A, n, c, rfl, h4, h5⟩ := hf (9, C5T w1 p L' v9) (by simp) (by simp [Oper.looksAt, Op.operands, Call.operands])
    refine rel_valG (v := .slice A n c) (W' := W) rfl (by go_simp) ?_
    exact ⟨hW, trivial, Below.refl _ _⟩
  · exact fun _ _ _ _ _ => trivial
  intro v28
  simp only [Act.put, List.setIfInBounds_toArray, List.set_cons_succ, List.set_cons_zero]
  apply rel_newG
  · intro W hW hf
    obtain ⟨q2, A, n, c, rfl, h4, h5⟩ := hf (9, C5T w1 p L' v9) (by simp) (by simp [Oper.looksAt, Op.operands, Call.operands])
    refine rel_valG (v := .int .i64 0) (W' := W) rfl (by go_simp) ?_
    exact ⟨hW, trivial, Below.refl _ _⟩
  · exact fun _ _ _ _ _ => trivial
  intro v29
  simp only [Act.put, List.setIfInBounds_toArray, List.set_cons_succ, List.set_cons_zero]
  iterate 2 (apply rel_isG; (intro W hW hf; obtain ⟨_, x0, x1, x2, x3, x4⟩ := id hW; go_simp; first | exact ⟨⟨hW, Below.refl _ _⟩, rfl⟩ | exact ⟨Below.refl _ _, rfl⟩ | rfl); simp only [Act.put, List.setIfInBounds_toArray, List.set_cons_succ, List.set_cons_zero])
  apply rel_effG
  · intro W hW hS hf
    obtain ⟨q2, rfl, h4, h5⟩ := hf (27, C5G w1 p L' v27) (by simp) (by simp [Oper.looksAt, Op.operands, Call.operands])
    have hc4 := (hS.2.cells (Below.refl _ _)).2.2.2.2.1
    have fz := fun i => free_blk hS.2 i
    refine rel_skipG (W' := W.setCell ⟨s, 4, none⟩ (.pointer (some ⟨q2, 0, none⟩))) rfl (by go_simp) ?_
    have hsq : s ≠ q2 := by omega
    have ho := (((Ow.refl W s).set 4 (.pointer (some ⟨q2, 0, none⟩))).bw.more (T := [p, m, s]) (by simp))
    have hst : StoreAt (W.setCell ⟨s, 4, none⟩ (.pointer (some ⟨q2, 0, none⟩))) s p base R ((g : Int) + 1) (.pointer (some ⟨q2, 0, none⟩)) b := set_blk hS.2 4 _
    obtain ⟨u0, u1, u2, u3, _⟩ := hst.cells (Below.refl _ _)
    have hcv : (W.setCell ⟨s, 4, none⟩ (.pointer (some ⟨q2, 0, none⟩))).cell? ⟨v, 0, none⟩ = some (.pointer (some ⟨s, 0, none⟩)) := (World.cell?_of_block (Below.heap_setCell _ _ _ _ (by simpa using n1))).trans hW.c0
    refine ⟨⟨hW.bw.trans ho, hcv, u0, u1, u2, u3⟩, trivial, ho, hS.1.set hc4 rfl n4 _, q2, hst, (Below.heap_setCell _ _ _ _ (by simpa using hsq.symm)).trans h4, h5⟩
  · exact fun _ _ _ _ _ => trivial
  · exact fun _ => C5E.keeps
  intro v00
  refine rel_endG ?_
  intro W hW hS hf
  try simp only [Act.put, List.setIfInBounds_toArray, List.set_cons_succ, List.set_cons_zero]
  refine wpList_nil ?_
  obtain ⟨hd2, q2, hst2, hlg2, hq2⟩ := hS
  have HW2 := Lib.hid hW
  have H : Cap W v s q2 p m base R ((g : Int) + 1) b dl L' := ⟨⟨hd2, hlg2, hst2⟩, cs, TV, (hW.bw.block v (by omega) (by simp <;> omega)).trans HV1.out, HV2.out⟩
  have HH := Lib.hid H
  clear hW hf hd2 hst2 hlg2 H HI HS0 HLO LP HD1 HS1
  have T := Lib.hid (fun X (hX : Below W.heap.size W X) => HH.out.cells hX)
  have HDSK := Lib.hid HH.out.sto.disk
  have HW0 := Lib.hid (HB1.out.trans HW2.out.bw)
  have hq2' : w.heap.size ≤ q2 := Nat.le_trans hsz1 hq2
  have LP2 : Hid (∀ X, Below W.heap.size W X → Calls Tryz.prog 29 #[.pointer (some ⟨s, 0, none⟩), .int .i64 (g : Int)] X fun e X' => e = .returned (.string (str (logN base g))) ∧ Below W.heap.size W X' ∧ Below X.heap.size X X') := Lib.hid (fun X hX =>
    (logof_at s base (by omega) g (by omega) X (fun X' hX' => (T.out X' (hX.trans (hX'.mono hX.size))).2.2.1)).mono fun e X' ⟨h1, h2⟩ => ⟨h1, hX.trans (h2.mono hX.size), h2⟩)
  have HRM := Lib.hid (fun X (hX : Below W.heap.size W X) A c (hA : Nrow X X.heap.size A [logN base g]) => rmv_at (HDSK.out.below hX) (show dl.writes < 900000000000 by have := HWL.out; omega) [logN base g] 1 rfl (by decide) (fun k hk => by
    simp only [List.mem_cons, List.not_mem_nil, or_false] at hk
    subst hk
    have := logN_len hb g; omega) A c hA)
  have hwg2 : IntKind.i64.wrap ((g : Int) + 1 - 1) = (g : Int) := by rw [wi64 _ (by omega) (by omega)]; omega
  have hwg3 : IntKind.i64.wrap (g : Int) = (g : Int) := wi64 _ (by omega) (by omega)
  have HC : Hid (∀ X, Below W.heap.size W X → ∀ X', Dw X X' p m → ∀ dd, DiskAt X' p m dd → Comp5P w v s p m base R ((g : Int) + 1) b (dd, (rmv dl [logN base g]).2) L' (.returned (.int .i64 (rmv dl [logN base g]).2)) X') := Lib.hid (fun X hX X' hX' dd hdd => by
    have hc := HH.out
    have hd := (Dw.of_below (p := p) (m := m) hX).trans hX'
    have hne := hc.ne
    have hlt := lt_blk hc.sto.st
    obtain ⟨cs', TV', hv1, hv2⟩ := hc.var
    refine ⟨rfl, ⟨q2, ⟨⟨hdd, (hd.block _ hc.sto.log.lt (hc.sto.log.ne hc.sto.disk).1 (hc.sto.log.ne hc.sto.disk).2).trans hc.sto.log, hc.sto.st.keep hc.sto.disk hd⟩, cs', TV', (hd.block _ (lt_blk hv1) hne.2.1 hne.2.2.1).trans hv1, hv2⟩, hq2'⟩, HW0.out.trans (hd.bw.more (by simp <;> omega))⟩)
  clear HH HW2 HDSK HB1 HV1 HWL
  generalize rmv dl [logN base g] = r at *
  obtain ⟨dr, zr⟩ := r
  simp only at HC ⊢
  clear hwg hR4 hR5
  go_upto_region 3 with (fail)
  apply wp_region_relG (fun X => Below W.heap.size W X) (fun X => True) (fun _ _ => True) 12 [(Sum.inl _ : TG), (Sum.inl _ : TG), (Sum.inl _ : TG), (Sum.inl _ : TG), (Sum.inl _ : TG), (Sum.inl _ : TG), (Sum.inl _ : TG), (Sum.inl _ : TG), (Sum.inl _ : TG), (Sum.inl _ : TG), (Sum.inl _ : TG), (Sum.inr (fun _ _ => True, some (fun v X => X.ownsRow W.heap.size 9 1 v 1 [.string (str (logN base g))])) : TG)] [false, false, false, false, false, false, false, false, false, false, false, true] (by kernel_rfl) (by kernel_rfl) (by kernel_rfl) rfl rfl (fun _ _ _ => trivial) (fun _ _ h _ => h) ((Below.refl _ _).drew) (trivial)
  simp only [List.take_succ_cons, List.take_zero, List.drop_succ_cons, List.drop_zero]
  iterate 10 (apply rel_isG; (intro W hW hf; obtain ⟨x0, x1, x2, x3, x4⟩ := T.out W hW; go_simp; first | exact ⟨⟨hW, Below.refl _ _⟩, rfl⟩ | exact ⟨Below.refl _ _, rfl⟩ | rfl); simp only [Act.put, List.setIfInBounds_toArray, List.set_cons_succ, List.set_cons_zero])
  apply rel_isG
  · intro W hW hf
    exact rel_callV rfl (by go_simp <;> exact ⟨rfl, rfl⟩) (LP2.out W hW)
  simp only [Act.put, List.setIfInBounds_toArray, List.set_cons_succ, List.set_cons_zero]
  apply rel_effG
  · intro X hW hS hf
    refine rel_valG (v := .slice (some ⟨X.heap.size, 0, none⟩) 1 1) (W' := X.alloc (.cells #[.string (str (logN base g))] 9)) rfl (by go_simp) ?_
    exact ⟨hW.trans ((below_alloc X _).mono hW.size), trivial, trivial, ⟨rfl, .inr ⟨X.heap.size, 1, _, rfl, hW.size, heap_alloc_new _ _, Nat.le_refl _, by simp [maxLen], by simp, by simp⟩⟩⟩
  · exact fun _ _ _ _ _ => trivial
  · exact fun v w w' h hb => own_below h hb
  intro v43
  simp only [Act.put, List.setIfInBounds_toArray, List.set_cons_succ, List.set_cons_zero]
  refine rel_endG ?_
  intro X hX hS hf
  try simp only [Act.put, List.setIfInBounds_toArray, List.set_cons_succ, List.set_cons_zero]
  obtain ⟨A15, c15, rfl, hr15, _, _⟩ := own_rd hS
  have HX := Lib.hid hX
  have HS := Lib.hid (HRM.out X hX A15 c15 (Nrow.of_rd hr15))
  clear hX hf hS hr15 T LP2 HRM
  unfold DiskP at HS
  go_wp2_with fail
  refine HS.out.mono ?_
  rintro e w3 ⟨rfl, hd, hdw⟩
  have HF := Lib.hid (HC.out X HX.out w3 hdw dr hd)
  clear hd hdw HC
  go_wp2_with fail
  go_ret
  exact HF.out
end Go.Proofs.YtegekaocbalndaaGreatDoor
end

section
set_option linter.unusedSimpArgs false
set_option linter.unusedVariables false
namespace Go.Proofs.YtegekaocbalndaaGreatDoor
open Go.RowKit

theorem Cap.dw {w w' : World} {v s q p m : Nat} {base : Nm} {R g : Int} {b : Bool} {d d' : Dk} {L : Lg} (h : Cap w v s q p m base R g b d L) (hd : DiskAt w' p m d') (hw : Dw w w' p m) : Cap w' v s q p m base R g b d' L := by
  obtain ⟨cs, T, h1, h2⟩ := h.var
  have hne := h.ne
  exact ⟨⟨hd, (hw.block _ h.sto.log.lt (h.sto.log.ne h.sto.disk).1 (h.sto.log.ne h.sto.disk).2).trans h.sto.log, h.sto.st.keep h.sto.disk hw⟩, cs, T, (hw.block v (lt_blk h1) hne.2.1 hne.2.2.1).trans h1, h2⟩
section
variable (d : Dk) (base : Nm) (R g : Nat) (snap : List UInt8)
def k1 : Dk × Nat := rmv d [tmpN base, logN base (g + 1)]
def k2 : Dk × Nat := (k1 d base g).1.append (tmpN base) (snapB (g + 1) snap)
def k3 : Dk × Nat := (k2 d base g snap).1.sync (tmpN base)
def k4 : Dk × Nat := (k3 d base g snap).1.rename (tmpN base) (snapN base)
def k5l : OpenR := lopen (k4 d base g snap).1 (logN base (g + 1)) ((R / 3 : Nat) : Int)
def k5 : Dk × Nat := rmv (k5l d base R g snap).d [logN base g]
end
/-- how the steps of a Compact ended. -/
def CEnd (r1 r2 r3 r4 r5 : Dk × Nat) (g : Nat) (L L' : Lg) (z : Nat) (d' : Dk) (g' : Nat) (L'' : Lg) : Prop :=
  (r1.2 ≠ 0 ∧ z = r1.2 ∧ d' = r1.1 ∧ g' = g ∧ L'' = L) ∨ (r1.2 = 0 ∧ r2.2 ≠ 0 ∧ z = r2.2 ∧ d' = r2.1 ∧ g' = g ∧ L'' = L) ∨ (r1.2 = 0 ∧ r2.2 = 0 ∧ r3.2 ≠ 0 ∧ z = r3.2 ∧ d' = r3.1 ∧ g' = g ∧ L'' = L) ∨
  (r1.2 = 0 ∧ r2.2 = 0 ∧ r3.2 = 0 ∧ r4.2 ≠ 0 ∧ z = r4.2 ∧ d' = r4.1 ∧ g' = g ∧ L'' = L) ∨ (r1.2 = 0 ∧ r2.2 = 0 ∧ r3.2 = 0 ∧ r4.2 = 0 ∧ z = r5.2 ∧ d' = r5.1 ∧ g' = g + 1 ∧ L'' = L')
def brkB (z : Nat) (d d' : Dk) : Bool := decide (z ≠ 0) && (decide (z ≠ 8) || decide (d'.writes ≠ d.writes))
def CompP (w : World) (s q p m : Nat) (base : Nm) (R g : Nat) (d : Dk) (L L' : Lg) (r1 r2 r3 r4 r5 : Dk × Nat) (e : Ending) (w' : World) : Prop := ∃ z d' g' L'' q', e = .returned (.int .i64 (z : Nat)) ∧ CEnd r1 r2 r3 r4 r5 g L L' z d' g' L'' ∧ Sto w' s q' p m base R (g' : Nat) (brkB z d d') d' L'' ∧ Bw w w' [p, m, s] ∧ (q' = q ∨ w.heap.size ≤ q')
/-- the loop of a Compact: where it stands. -/
def CLoop (w0 wr : World) (v s q p m : Nat) (base : Nm) (R g : Nat) (d : Dk) (L L' : Lg) (r1 r2 r3 r4 r5 : Dk × Nat) (i : Nat) : Prop :=
  (i = 0 ∧ Dw w0 wr p m ∧ Cap wr v s q p m base R (g : Nat) false d L) ∨ (i = 1 ∧ Dw w0 wr p m ∧ r1.2 = 0 ∧ Cap wr v s q p m base R (g : Nat) false r1.1 L) ∨ (i = 2 ∧ Dw w0 wr p m ∧ (r1.2 = 0 ∧ r2.2 = 0) ∧ Cap wr v s q p m base R (g : Nat) false r2.1 L) ∨
  (i = 3 ∧ Dw w0 wr p m ∧ (r1.2 = 0 ∧ r2.2 = 0 ∧ r3.2 = 0) ∧ Cap wr v s q p m base R (g : Nat) false r3.1 L) ∨ (i = 4 ∧ Dw w0 wr p m ∧ (r1.2 = 0 ∧ r2.2 = 0 ∧ r3.2 = 0 ∧ r4.2 = 0) ∧ Cap wr v s q p m base R (g : Nat) false r4.1 L) ∨
  (i = 5 ∧ (r1.2 = 0 ∧ r2.2 = 0 ∧ r3.2 = 0 ∧ r4.2 = 0 ∧ r5.2 = 0) ∧ Bw w0 wr [p, m, s] ∧ ∃ q', Cap wr v s q' p m base R ((g + 1 : Nat) : Int) false r5.1 L' ∧ w0.heap.size ≤ q')
set_option maxRecDepth 100000 in
set_option maxHeartbeats 4000000 in
theorem compact_at {w : World} {s q p m : Nat} {base : Nm} {R g : Nat} {d : Dk} {L : Lg} (h : Sto w s q p m base R (g : Nat) false d L) (hR : R ≤ 67108864) (hb : base.length ≤ 500) (hw : d.writes < 1000000000) (hg : g ≤ 88) (snap : List UInt8) (n : Nat) (hn : n = snap.length) (hn2 : n ≤ 60000) (C : Option Addr) (capC : Nat) (hC : Bs w w.heap.size C snap) (hC0 : C = none → snap = []) (hsm : smallB n R = true) (L' : Lg)
    (h5 : (k1 d base g).2 = 0 → (k2 d base g snap).2 = 0 → (k3 d base g snap).2 = 0 → (k4 d base g snap).2 = 0 → (k5l d base R g snap).e = 0 ∧ (k5l d base R g snap).l = some L' ∧ ((k4 d base g snap).1.file (logN base (g + 1))).b.length ≤ 1000000 ∧ (k5l d base R g snap).d.writes < 10000000000) :
    Calls Tryz.prog 11 #[.pointer (some ⟨s, 0, none⟩), .slice C n capC] w (CompP w s q p m base R g d L L' (k1 d base g) (k2 d base g snap) (k3 d base g snap) (k4 d base g snap) (k5 d base R g snap)) := by
  have HM := Lib.hid (fun W (hW : Below w.heap.size w W) => smay_st (h.below hW).st)
  have H := Lib.hid h; have HC := Lib.hid hC; have HC0 := Lib.hid hC0; have HN := Lib.hid hn; have HSM := Lib.hid hsm
  have hsw := lt_blk h.st; have hpw := h.disk.lt; have hmw := h.disk.ltm
  have hwg : IntKind.i64.wrap ((g : Int) + 1) = (g : Int) + 1 := wi64 _ (by omega) (by omega)
  have w1' : (k1 d base g).1.writes ≤ d.writes + 2 := rmv_writes _ _
  have w2' : (k2 d base g snap).1.writes ≤ (k1 d base g).1.writes + 1 := append_writes _ _ _
  have w3' : (k3 d base g snap).1.writes ≤ (k2 d base g snap).1.writes + 1 := sync_writes _ _
  have w4' : (k4 d base g snap).1.writes ≤ (k3 d base g snap).1.writes + 1 := rename_writes _ _ _
  have C1 : Hid (∀ W v, Cap W v s q p m base R (g : Nat) false d L → Calls Tryz.prog 40 #[.pointer (some ⟨v, 0, none⟩)] W (DiskP W p m (k1 d base g))) := Lib.hid (fun W v hW => comp1_at hW hb (by omega) (by omega))
  have C2 : Hid (∀ W v, Cap W v s q p m base R (g : Nat) false (k1 d base g).1 L → ∀ u A n c, W.cell? ⟨u, 0, none⟩ = some (.slice A n c) → n = (snapB (g + 1) snap).length → n ≤ 100000000 → Bs W W.heap.size A (snapB (g + 1) snap) → (A = none → snapB (g + 1) snap = []) → Calls Tryz.prog 41 #[.pointer (some ⟨v, 0, none⟩), .pointer (some ⟨u, 0, none⟩)] W (DiskP W p m (k2 d base g snap))) := Lib.hid (fun W v hW u A n c h1 h2 h3 h4 h5 => comp2_at hW hb (by omega) _ n h2 h3 u A c h1 h4 h5)
  have C3 : Hid (∀ W v, Cap W v s q p m base R (g : Nat) false (k2 d base g snap).1 L → Calls Tryz.prog 43 #[.pointer (some ⟨v, 0, none⟩)] W (DiskP W p m (k3 d base g snap))) := Lib.hid (fun W v hW => comp3_at hW hb (by omega))
  have C4 : Hid (∀ W v, Cap W v s q p m base R (g : Nat) false (k3 d base g snap).1 L → Calls Tryz.prog 45 #[.pointer (some ⟨v, 0, none⟩)] W (DiskP W p m (k4 d base g snap))) := Lib.hid (fun W v hW => comp4_at hW hb (by omega))
  have C5 : Hid ((k1 d base g).2 = 0 ∧ (k2 d base g snap).2 = 0 ∧ (k3 d base g snap).2 = 0 ∧ (k4 d base g snap).2 = 0 → ∀ W v, Cap W v s q p m base R (g : Nat) false (k4 d base g snap).1 L → Calls Tryz.prog 47 #[.pointer (some ⟨v, 0, none⟩)] W (Comp5P W v s p m base R ((g : Int) + 1) false (k5 d base R g snap) L')) := Lib.hid (fun hz W v hW => by
    obtain ⟨e1, e2, e3, e4⟩ := h5 hz.1 hz.2.1 hz.2.2.1 hz.2.2.2
    exact comp5_at hW hR hb (by omega) (by omega) L' e1 e2 e3 e4)
  clear h hC hC0 hsm h5 w1' w2' w3' w4' hn
  generalize k5 d base R g snap = r5 at *
  generalize k4 d base g snap = r4 at *
  generalize k3 d base g snap = r3 at *
  generalize k2 d base g snap = r2 at *
  generalize k1 d base g = r1 at *
  go_enter Tryz.func11, Tryz.ntmps11
  go_wp2_with fail
  obtain ⟨b0_, hb_⟩ := boxes1 w (.cells #[.pointer (some ⟨s, 0, none⟩)] 29)
  generalize w.alloc (.cells #[.pointer (some ⟨s, 0, none⟩)] 29) = w1 at *
  have T1b : Hid (∀ W, Below w1.heap.size w1 W → W.heap[w.heap.size]? = some (.cells #[.pointer (some ⟨s, 0, none⟩)] 29 (0, 0))) := Lib.hid (fun W hW => (hW.block _ (lt_blk b0_)).trans b0_)
  have T1 : Hid (∀ W, Below w1.heap.size w1 W → W.cell? ⟨w.heap.size, 0, none⟩ = some (.pointer (some ⟨s, 0, none⟩))) := Lib.hid (fun W hW => by have e := (hW.block _ (lt_blk b0_)).trans b0_; exact by rw [cell_blk e]; rfl)
  have HB1 := Lib.hid hb_
  clear hb_ b0_
  generalize hv : w.heap.size = v at *
  refine (HM.out w1 (hv ▸ HB1.out)).mono ?_
  rintro e w1' ⟨rfl, hw1⟩
  rw [hw1]
  clear hw1 HM
  have hb01 : Below w.heap.size w w1 := by rw [hv]; exact HB1.out
  have HCAP : Hid (Cap w1 v s q p m base R (g : Nat) false d L) := Lib.hid ⟨H.out.below hb01, _, _, T1b.out w1 (Below.refl _ _), rfl⟩
  have HBS1 := Lib.hid ((HC.out.below HB1.out).more (show v ≤ w1.heap.size by have := hb01.size; omega))
  obtain ⟨x0, x1, x2, x3, x4⟩ := HCAP.out.cells (Below.refl _ _)
  have HB1 := Lib.hid hb01
  clear T1 T1b HC H hb01
  go_wp2_with fail
  with_reducible refine (ssmall_at n (by omega) R hR w1).mono ?_
  rintro e w2 ⟨rfl, hb2⟩
  rw [HSM.out]
  have HCAP2 := Lib.hid (HCAP.out.below hb2); have HBS2 := Lib.hid ((HBS1.out.below hb2).more hb2.size)
  have HB2 := Lib.hid (HB1.out.trans (hb2.mono HB1.out.size))
  clear hb2 x0 x1 x2 x3 x4 HCAP HBS1 HB1
  obtain ⟨x0, x1, x2, x3, x4⟩ := HCAP2.out.cells (Below.refl _ _)
  have HLD := laid_at (g + 1) (by omega) snap n HN.out (by omega) C capC w2 HBS2.out HC0.out
  rw [show ((g + 1 : Nat) : Int) = (g : Int) + 1 by omega] at HLD
  have HLD := Lib.hid HLD
  have hln : (layL (g + 1) snap).length = layLen n := by rw [layL_len, ← HN.out]
  have hsl := small_len HSM.out
  clear HBS2
  go_wp2_with fail
  refine HLD.out.mono ?_
  rintro e w3 ⟨A3, c3, rfl, hbs3, hz3, hc3, hb3⟩
  have HCAP3 := Lib.hid (HCAP2.out.below hb3); have HB3 := Lib.hid (HB2.out.trans (hb3.mono HB2.out.size))
  have HFR := frame_any (layL (g + 1) snap) (by omega) A3 c3 w3 hbs3 hz3
  rw [hln] at HFR
  have HFR := Lib.hid HFR
  clear hbs3 hz3 hc3 hb3 x0 x1 x2 x3 x4 HCAP2 HB2 HLD
  have HLN : Hid ((snapB (g + 1) snap).length = layLen n + 12) := Lib.hid (by rw [snapB_len, ← HN.out])
  have hld : decide (layLen n ≤ 65536) = true := decide_eq_true hsl.1
  have hl2 := hsl.1
  clear hln hsl
  generalize layLen n = ln at *
  go_wp2_with fail
  refine HFR.out.mono ?_
  rintro e w4 ⟨v4, rfl, ho4, hb4⟩
  have HCAP4 := Lib.hid (HCAP3.out.below hb4); have HB4 := Lib.hid (HB3.out.trans (hb4.mono HB3.out.size))
  have HBS4 : Hid (∃ A c, v4 = .slice A (ln + 12) c ∧ Bs w4 w4.heap.size A (snapB (g + 1) snap) ∧ (A = none → snapB (g + 1) snap = [])) := Lib.hid (by
    obtain ⟨A, c, e, hr, h0, _⟩ := own_rd ho4
    exact ⟨A, c, e, (hr.bs), fun hA => absurd (h0 hA) (by omega)⟩)
  clear ho4 hb4 HCAP3 HB3 HFR
  obtain ⟨A4, c4, rfl, hbs4, hz4⟩ := HBS4.out
  have HBX := Lib.hid hbs4; have HZ4 := Lib.hid hz4
  clear hbs4 hz4 HBS4
  go_upto_region 8 with (fail)
  obtain ⟨b0_, hb_⟩ := boxes1 w4 (.cells #[.slice A4 (ln + 12) c4] 30)
  generalize w4.alloc (.cells #[.slice A4 (ln + 12) c4] 30) = w5 at *
  have T5b : Hid (∀ W, Below w5.heap.size w5 W → W.heap[w4.heap.size]? = some (.cells #[.slice A4 (ln + 12) c4] 30 (0, 0))) := Lib.hid (fun W hW => (hW.block _ (lt_blk b0_)).trans b0_)
  have T5 : Hid (∀ W, Below w5.heap.size w5 W → W.cell? ⟨w4.heap.size, 0, none⟩ = some (.slice A4 (ln + 12) c4)) := Lib.hid (fun W hW => by have e := (hW.block _ (lt_blk b0_)).trans b0_; exact by rw [cell_blk e]; rfl)
  have HB5 := Lib.hid hb_
  clear hb_ b0_
  generalize hu : w4.heap.size = u at *
  have hb45 : Below w4.heap.size w4 w5 := by rw [hu]; exact HB5.out
  have HCAP5 := Lib.hid (HCAP4.out.below hb45)
  have HB5' := Lib.hid (HB4.out.trans (hb45.mono HB4.out.size))
  have HBX5 := Lib.hid ((HBX.out.below HB5.out).more (show u ≤ w5.heap.size by have := hb45.size; omega))
  have HU5 := Lib.hid (T5b.out w5 (Below.refl _ _))
  have hu5 := lt_blk HU5.out
  clear HB5 T5 T5b HBX HCAP4 HB4 hb45 hu
  obtain ⟨x0, x1, x2, x3, x4⟩ := HCAP5.out.cells (Below.refl _ _)
  have HWR := Lib.hid (writes_at HCAP5.out.sto.disk)
  go_wp2_with fail
  refine HWR.out.mono ?_
  rintro e w5' ⟨rfl, hw5⟩
  rw [hw5]
  clear hw5 HWR x0 x1 x2 x3 x4
  go_upto_region 11 with (fail)
  obtain ⟨b0_, hb_⟩ := boxes1 w5 (.cells #[.func (.func 40) #[] #[.pointer (some ⟨v, 0, none⟩)], .func (.func 41) #[] #[.pointer (some ⟨v, 0, none⟩), .pointer (some ⟨u, 0, none⟩)], .func (.func 43) #[] #[.pointer (some ⟨v, 0, none⟩)], .func (.func 45) #[] #[.pointer (some ⟨v, 0, none⟩)], .func (.func 47) #[] #[.pointer (some ⟨v, 0, none⟩)]] 70)
  generalize w5.alloc (.cells #[.func (.func 40) #[] #[.pointer (some ⟨v, 0, none⟩)], .func (.func 41) #[] #[.pointer (some ⟨v, 0, none⟩), .pointer (some ⟨u, 0, none⟩)], .func (.func 43) #[] #[.pointer (some ⟨v, 0, none⟩)], .func (.func 45) #[] #[.pointer (some ⟨v, 0, none⟩)], .func (.func 47) #[] #[.pointer (some ⟨v, 0, none⟩)]] 70) = w6 at *
  have T6b : Hid (∀ W, Below w6.heap.size w6 W → W.heap[w5.heap.size]? = some (.cells #[.func (.func 40) #[] #[.pointer (some ⟨v, 0, none⟩)], .func (.func 41) #[] #[.pointer (some ⟨v, 0, none⟩), .pointer (some ⟨u, 0, none⟩)], .func (.func 43) #[] #[.pointer (some ⟨v, 0, none⟩)], .func (.func 45) #[] #[.pointer (some ⟨v, 0, none⟩)], .func (.func 47) #[] #[.pointer (some ⟨v, 0, none⟩)]] 70 (0, 0))) := Lib.hid (fun W hW => (hW.block _ (lt_blk b0_)).trans b0_)
  have T6 : Hid (∀ W, Below w6.heap.size w6 W → W.cell? ⟨w5.heap.size, 0, none⟩ = some (.func (.func 40) #[] #[.pointer (some ⟨v, 0, none⟩)]) ∧ W.cell? ⟨w5.heap.size, 1, none⟩ = some (.func (.func 41) #[] #[.pointer (some ⟨v, 0, none⟩), .pointer (some ⟨u, 0, none⟩)]) ∧ W.cell? ⟨w5.heap.size, 2, none⟩ = some (.func (.func 43) #[] #[.pointer (some ⟨v, 0, none⟩)]) ∧ W.cell? ⟨w5.heap.size, 3, none⟩ = some (.func (.func 45) #[] #[.pointer (some ⟨v, 0, none⟩)]) ∧ W.cell? ⟨w5.heap.size, 4, none⟩ = some (.func (.func 47) #[] #[.pointer (some ⟨v, 0, none⟩)])) := Lib.hid (fun W hW => by have e := (hW.block _ (lt_blk b0_)).trans b0_; exact ⟨by rw [cell_blk e]; rfl, by rw [cell_blk e]; rfl, by rw [cell_blk e]; rfl, by rw [cell_blk e]; rfl, by rw [cell_blk e]; rfl⟩)
  have HB6 := Lib.hid hb_
  clear hb_ b0_
  have hp5 := HCAP5.out.sto.disk.lt; have hm5 := HCAP5.out.sto.disk.ltm
  have HCAP6 := Lib.hid (HCAP5.out.below HB6.out)
  have HB06 := Lib.hid (HB5'.out.trans (HB6.out.mono HB5'.out.size))
  have hx6 := lt_blk (T6b.out w6 (Below.refl _ _))
  have hu6 : u < w6.heap.size := by have := HB6.out.size; omega
  have hun : u ≠ p ∧ u ≠ m := by
    refine ⟨?_, HCAP5.out.sto.disk.raw.no_map (cell_blk HU5.out 0)⟩
    rintro rfl
    have h1 := HU5.out.symm.trans HCAP5.out.sto.disk.own
    simp at h1
  have TF : Hid (∀ W, Dw w6 W p m → W.heap[w5.heap.size]? = some (.cells #[.func (.func 40) #[] #[.pointer (some ⟨v, 0, none⟩)], .func (.func 41) #[] #[.pointer (some ⟨v, 0, none⟩), .pointer (some ⟨u, 0, none⟩)], .func (.func 43) #[] #[.pointer (some ⟨v, 0, none⟩)], .func (.func 45) #[] #[.pointer (some ⟨v, 0, none⟩)], .func (.func 47) #[] #[.pointer (some ⟨v, 0, none⟩)]] 70 (0, 0)) ∧ W.cell? ⟨u, 0, none⟩ = some (.slice A4 (ln + 12) c4) ∧ Bs W W.heap.size A4 (snapB (g + 1) snap)) := Lib.hid (fun W hW => by
    refine ⟨(hW.block _ hx6 (by omega) (by omega)).trans (T6b.out w6 (Below.refl _ _)), ?_, ?_⟩
    · rw [cell_blk ((hW.block u hu6 hun.1 hun.2).trans ((HB6.out.block u hu5).trans HU5.out))]; rfl
    · exact (HCAP6.out.sto.disk.bs hW (Nat.le_refl _) ((HBX5.out.below HB6.out).more HB6.out.size)).more hW.size)
  generalize hx : w5.heap.size = x at *
  clear T6 T6b HCAP5 HB5' HBX5 HB6 HU5 hu5 hun hu6 hx6 hp5 hm5 hx
  obtain ⟨d1, z1⟩ := r1
  obtain ⟨d2, z2⟩ := r2
  obtain ⟨d3, z3⟩ := r3
  obtain ⟨d4, z4⟩ := r4
  obtain ⟨d5, z5⟩ := r5
  simp only at C1 C2 C3 C4 C5
  have HDW : Hid (d.writes < 1000000000) := Lib.hid hw
  generalize hdw : d.writes = dw at *
  go_loopw [13, 14, 56] (fun _ _ iv wr => ∃ i : Nat, iv = .int .i64 i ∧ CLoop w6 wr v s q p m base R g d L L' (d1, z1) (d2, z2) (d3, z3) (d4, z4) (d5, z5) i) (fun _ _ iv _ => 5 - (intOf iv).toNat)
  case atStart => exact ⟨0, rfl, .inl ⟨rfl, .refl _ _ _, HCAP6.out⟩⟩
  case round =>
    obtain ⟨i, rfl, hl⟩ := hrel
    unfold CLoop at hl
    simp only at hl
    clear HCAP6
    rcases hl with ⟨rfl, hw6, hcap⟩ | ⟨rfl, hw6, h0, hcap⟩ | ⟨rfl, hw6, h0, hcap⟩ | ⟨rfl, hw6, h0, hcap⟩ | ⟨rfl, hw6, h0, hcap⟩ | ⟨rfl, h0, hbw, q', hcap, hq'⟩
    · have HW6 := Lib.hid hw6; have HCP := Lib.hid hcap
      clear hw6 hcap
      obtain ⟨y0, y1, y2⟩ := TF.out wr HW6.out
      have y3 := cell_blk y0 0
      simp only [List.getElem?_toArray, List.getElem?_cons_succ, List.getElem?_cons_zero] at y3
      have HCALL := Lib.hid (C1.out wr v HCP.out)
      clear y0 y1 y2
      go_wp2_with fail
      refine HCALL.out.mono ?_
      rintro e w7 ⟨rfl, hd7, hw7⟩
      have HF := Lib.hid (HCP.out.dw hd7 hw7); have HW7 := Lib.hid (HW6.out.trans hw7)
      clear hd7 hw7 HCALL y3
      simp only at HF ⊢
      by_cases hz : z1 = 0
      · subst hz
        go_wp2_with fail
        go_roundw
        case rel => exact ⟨1, by go_num, .inr (.inl ⟨rfl, HW7.out, rfl, HF.out⟩)⟩
        case measure => simp [intOf]
      · have HZ := Lib.hid hz
        clear hz
        have HBW := Lib.hid ((Bw.of_below HB06.out).trans (HW7.out.bw.more (T := [p, m, s]) (by simp <;> omega)))
        have HEND : Hid (CEnd (d1, z1) (d2, z2) (d3, z3) (d4, z4) (d5, z5) g L L' z1 d1 g L) := Lib.hid (by unfold CEnd; exact .inl ⟨HZ.out, rfl, rfl, rfl, rfl⟩)
        clear TF HW6 HCP HW7
        obtain ⟨x0, x1, x2, x3, x4⟩ := HF.out.cells (Below.refl _ _)
        have T := Lib.hid (fun W (hW : Below w7.heap.size w7 W) => HF.out.cells hW)
        have WP : Hid (∀ W, Below w7.heap.size w7 W → Calls Tryz.prog 39 #[.pointer (some ⟨p, 0, none⟩)] W fun e W' => ∃ v, e = .returned v ∧ Below W.heap.size W W' ∧ ttHolds (.inl (.int .i64 (d1.writes : Nat))) v W') := Lib.hid (fun W hW =>
          (writes_at (HF.out.sto.disk.below hW)).mono fun e W' ⟨h1, h2⟩ => ⟨_, h1, by rw [h2]; exact Below.refl _ _, rfl⟩)
        have g0 : ((z1 : Int) != 0) = true := by rw [bne_iff_ne]; have := HZ.out; omega
        have gz : (0 : Int) ≤ z1 := by omega
        by_cases h8 : z1 = 8
        · have H8 := Lib.hid h8
          have g8 : ((z1 : Int) != 8) = false := by rw [bne_eq_false_iff_eq, h8]; rfl
          clear h8
          go_upto_region 15 with (fail)
          apply wp_region_relS 14 [(Sum.inl _ : TT), (Sum.inl _ : TT), (Sum.inl _ : TT), (Sum.inl _ : TT), (Sum.inl _ : TT), (Sum.inl _ : TT), (Sum.inl _ : TT), (Sum.inl _ : TT), (Sum.inl _ : TT), (Sum.inl _ : TT), (Sum.inl _ : TT), (Sum.inl _ : TT), (Sum.inl _ : TT), (Sum.inl _ : TT)] (by kernel_rfl) (by kernel_rfl) rfl
          simp only [List.take_succ_cons, List.take_zero, List.drop_succ_cons, List.drop_zero]
          iterate 8 (apply rel_isS; (intro W hW hf; obtain ⟨x0, x1, x2, x3, x4⟩ := T.out W hW; go_simp; first | exact ⟨StayS.refl _ _, rfl⟩ | rfl); simp only [Act.put, List.setIfInBounds_toArray, List.set_cons_succ, List.set_cons_zero])
          apply rel_isS
          · intro W hW hf
            exact rel_callS hW (by first | rfl | (go_simp; done) | (go_simp; simp)) (by go_simp <;> first | rfl | exact ⟨rfl, rfl⟩ | exact ⟨rfl, rfl, rfl⟩) (WP.out W hW)
          simp only [Act.put, List.setIfInBounds_toArray, List.set_cons_succ, List.set_cons_zero]
          iterate 5 (apply rel_isS; (intro W hW hf; obtain ⟨x0, x1, x2, x3, x4⟩ := T.out W hW; go_simp; first | exact ⟨StayS.refl _ _, rfl⟩ | rfl); simp only [Act.put, List.setIfInBounds_toArray, List.set_cons_succ, List.set_cons_zero])
          refine rel_endS ?_
          intro W hW hf
          try simp only [Act.put, List.setIfInBounds_toArray, List.set_cons_succ, List.set_cons_zero]
          have HFW := Lib.hid (HF.out.below hW); have HBW2 := Lib.hid (HBW.out.trans (.of_below hW))
          have hst := HFW.out.sto.st
          have c5 := (hst.cells (Below.refl _ _)).2.2.2.2.2
          have fz := fun i => free_blk hst i
          clear hW hf hst x0 x1 x2 x3 x4
          have HD9 : Hid (∀ u, DiskAt (W.setCell ⟨s, 5, none⟩ u) p m d1 ∧ LogAt (W.setCell ⟨s, 5, none⟩ u) q p L ∧ Bw w (W.setCell ⟨s, 5, none⟩ u) [p, m, s]) := Lib.hid (fun u => ⟨HFW.out.sto.disk.set c5 rfl HFW.out.ne.2.2.2.1 _, (Below.heap_setCell _ _ _ _ (by simpa using HFW.out.ne.2.2.2.2.2.symm)).trans HFW.out.sto.log, HBW2.out.trans (((Ow.refl W s).set 5 u).bw.more (by simp))⟩)
          have HS9 : Hid (∀ c, StoreAt (W.setCell ⟨s, 5, none⟩ (.bool c)) s p base R (g : Nat) (.pointer (some ⟨q, 0, none⟩)) c) := Lib.hid (fun c => set_blk HFW.out.sto.st 5 _)
          have HBK : Hid (brkB z1 d d1 = ((d1.writes : Int) != (dw : Int))) := Lib.hid (by
            unfold brkB
            rw [H8.out, hdw]
            by_cases e : d1.writes = dw
            · rw [e]; simp
            · have e2 : ((d1.writes : Int) != (dw : Int)) = true := by rw [bne_iff_ne]; omega
              rw [e2]; simp [e])
          generalize ((d1.writes : Int) != (dw : Int)) = bk at *
          go_wp2_with fail
          go_ret
          exact ⟨z1, d1, g, L, q, rfl, HEND.out, ⟨(HD9.out _).1, (HD9.out _).2.1, by rw [HBK.out]; exact HS9.out _⟩, (HD9.out _).2.2, .inl rfl⟩
        · have H8 := Lib.hid h8
          have g8 : ((z1 : Int) != 8) = true := by rw [bne_iff_ne]; omega
          clear h8
          go_upto_region 15 with (fail)
          apply wp_region_relS 14 [(Sum.inl _ : TT), (Sum.inl _ : TT), (Sum.inl _ : TT), (Sum.inl _ : TT), (Sum.inl _ : TT), (Sum.inl _ : TT), (Sum.inl _ : TT), (Sum.inl _ : TT), (Sum.inl _ : TT), (Sum.inl _ : TT), (Sum.inl _ : TT), (Sum.inl _ : TT), (Sum.inl _ : TT), (Sum.inl _ : TT)] (by kernel_rfl) (by kernel_rfl) rfl
          simp only [List.take_succ_cons, List.take_zero, List.drop_succ_cons, List.drop_zero]
          iterate 14 (apply rel_isS; (intro W hW hf; obtain ⟨x0, x1, x2, x3, x4⟩ := T.out W hW; go_simp; first | exact ⟨StayS.refl _ _, rfl⟩ | rfl); simp only [Act.put, List.setIfInBounds_toArray, List.set_cons_succ, List.set_cons_zero])
          refine rel_endS ?_
          intro W hW hf
          try simp only [Act.put, List.setIfInBounds_toArray, List.set_cons_succ, List.set_cons_zero]
          have HFW := Lib.hid (HF.out.below hW); have HBW2 := Lib.hid (HBW.out.trans (.of_below hW))
          have hst := HFW.out.sto.st
          have c5 := (hst.cells (Below.refl _ _)).2.2.2.2.2
          have fz := fun i => free_blk hst i
          clear hW hf hst x0 x1 x2 x3 x4
          have HD9 : Hid (∀ u, DiskAt (W.setCell ⟨s, 5, none⟩ u) p m d1 ∧ LogAt (W.setCell ⟨s, 5, none⟩ u) q p L ∧ Bw w (W.setCell ⟨s, 5, none⟩ u) [p, m, s]) := Lib.hid (fun u => ⟨HFW.out.sto.disk.set c5 rfl HFW.out.ne.2.2.2.1 _, (Below.heap_setCell _ _ _ _ (by simpa using HFW.out.ne.2.2.2.2.2.symm)).trans HFW.out.sto.log, HBW2.out.trans (((Ow.refl W s).set 5 u).bw.more (by simp))⟩)
          have HS9 : Hid (∀ c, StoreAt (W.setCell ⟨s, 5, none⟩ (.bool c)) s p base R (g : Nat) (.pointer (some ⟨q, 0, none⟩)) c) := Lib.hid (fun c => set_blk HFW.out.sto.st 5 _)
          have HBK : Hid (brkB z1 d d1 = true) := Lib.hid (by
            unfold brkB
            rw [decide_eq_true HZ.out, decide_eq_true H8.out]; rfl)
          go_wp2_with fail
          go_ret
          exact ⟨z1, d1, g, L, q, rfl, HEND.out, ⟨(HD9.out _).1, (HD9.out _).2.1, by rw [HBK.out]; exact HS9.out _⟩, (HD9.out _).2.2, .inl rfl⟩
    · have HW6 := Lib.hid hw6; have HCP := Lib.hid hcap
      have HH0 := Lib.hid h0
      clear h0
      clear hw6 hcap
      obtain ⟨y0, y1, y2⟩ := TF.out wr HW6.out
      have y3 := cell_blk y0 1
      simp only [List.getElem?_toArray, List.getElem?_cons_succ, List.getElem?_cons_zero] at y3
      have HCALL := Lib.hid (C2.out wr v HCP.out u A4 (ln + 12) c4 y1 HLN.out.symm (by omega) y2 HZ4.out)
      clear y0 y1 y2
      go_wp2_with fail
      refine HCALL.out.mono ?_
      rintro e w7 ⟨rfl, hd7, hw7⟩
      have HF := Lib.hid (HCP.out.dw hd7 hw7); have HW7 := Lib.hid (HW6.out.trans hw7)
      clear hd7 hw7 HCALL y3
      simp only at HF ⊢
      by_cases hz : z2 = 0
      · subst hz
        go_wp2_with fail
        go_roundw
        case rel => exact ⟨2, by go_num, .inr (.inr (.inl ⟨rfl, HW7.out, ⟨HH0.out, rfl⟩, HF.out⟩))⟩
        case measure => simp [intOf]
      · have HZ := Lib.hid hz
        clear hz
        have HBW := Lib.hid ((Bw.of_below HB06.out).trans (HW7.out.bw.more (T := [p, m, s]) (by simp <;> omega)))
        have HEND : Hid (CEnd (d1, z1) (d2, z2) (d3, z3) (d4, z4) (d5, z5) g L L' z2 d2 g L) := Lib.hid (by unfold CEnd; exact .inr (.inl ⟨HH0.out, HZ.out, rfl, rfl, rfl, rfl⟩))
        clear TF HW6 HCP HW7
        obtain ⟨x0, x1, x2, x3, x4⟩ := HF.out.cells (Below.refl _ _)
        have T := Lib.hid (fun W (hW : Below w7.heap.size w7 W) => HF.out.cells hW)
        have WP : Hid (∀ W, Below w7.heap.size w7 W → Calls Tryz.prog 39 #[.pointer (some ⟨p, 0, none⟩)] W fun e W' => ∃ v, e = .returned v ∧ Below W.heap.size W W' ∧ ttHolds (.inl (.int .i64 (d2.writes : Nat))) v W') := Lib.hid (fun W hW =>
          (writes_at (HF.out.sto.disk.below hW)).mono fun e W' ⟨h1, h2⟩ => ⟨_, h1, by rw [h2]; exact Below.refl _ _, rfl⟩)
        have g0 : ((z2 : Int) != 0) = true := by rw [bne_iff_ne]; have := HZ.out; omega
        have gz : (0 : Int) ≤ z2 := by omega
        by_cases h8 : z2 = 8
        · have H8 := Lib.hid h8
          have g8 : ((z2 : Int) != 8) = false := by rw [bne_eq_false_iff_eq, h8]; rfl
          clear h8
          go_upto_region 15 with (fail)
          apply wp_region_relS 14 [(Sum.inl _ : TT), (Sum.inl _ : TT), (Sum.inl _ : TT), (Sum.inl _ : TT), (Sum.inl _ : TT), (Sum.inl _ : TT), (Sum.inl _ : TT), (Sum.inl _ : TT), (Sum.inl _ : TT), (Sum.inl _ : TT), (Sum.inl _ : TT), (Sum.inl _ : TT), (Sum.inl _ : TT), (Sum.inl _ : TT)] (by kernel_rfl) (by kernel_rfl) rfl
          simp only [List.take_succ_cons, List.take_zero, List.drop_succ_cons, List.drop_zero]
          iterate 8 (apply rel_isS; (intro W hW hf; obtain ⟨x0, x1, x2, x3, x4⟩ := T.out W hW; go_simp; first | exact ⟨StayS.refl _ _, rfl⟩ | rfl); simp only [Act.put, List.setIfInBounds_toArray, List.set_cons_succ, List.set_cons_zero])
          apply rel_isS
          · intro W hW hf
            exact rel_callS hW (by first | rfl | (go_simp; done) | (go_simp; simp)) (by go_simp <;> first | rfl | exact ⟨rfl, rfl⟩ | exact ⟨rfl, rfl, rfl⟩) (WP.out W hW)
          simp only [Act.put, List.setIfInBounds_toArray, List.set_cons_succ, List.set_cons_zero]
          iterate 5 (apply rel_isS; (intro W hW hf; obtain ⟨x0, x1, x2, x3, x4⟩ := T.out W hW; go_simp; first | exact ⟨StayS.refl _ _, rfl⟩ | rfl); simp only [Act.put, List.setIfInBounds_toArray, List.set_cons_succ, List.set_cons_zero])
          refine rel_endS ?_
          intro W hW hf
          try simp only [Act.put, List.setIfInBounds_toArray, List.set_cons_succ, List.set_cons_zero]
          have HFW := Lib.hid (HF.out.below hW); have HBW2 := Lib.hid (HBW.out.trans (.of_below hW))
          have hst := HFW.out.sto.st
          have c5 := (hst.cells (Below.refl _ _)).2.2.2.2.2
          have fz := fun i => free_blk hst i
          clear hW hf hst x0 x1 x2 x3 x4
          have HD9 : Hid (∀ u, DiskAt (W.setCell ⟨s, 5, none⟩ u) p m d2 ∧ LogAt (W.setCell ⟨s, 5, none⟩ u) q p L ∧ Bw w (W.setCell ⟨s, 5, none⟩ u) [p, m, s]) := Lib.hid (fun u => ⟨HFW.out.sto.disk.set c5 rfl HFW.out.ne.2.2.2.1 _, (Below.heap_setCell _ _ _ _ (by simpa using HFW.out.ne.2.2.2.2.2.symm)).trans HFW.out.sto.log, HBW2.out.trans (((Ow.refl W s).set 5 u).bw.more (by simp))⟩)
          have HS9 : Hid (∀ c, StoreAt (W.setCell ⟨s, 5, none⟩ (.bool c)) s p base R (g : Nat) (.pointer (some ⟨q, 0, none⟩)) c) := Lib.hid (fun c => set_blk HFW.out.sto.st 5 _)
          have HBK : Hid (brkB z2 d d2 = ((d2.writes : Int) != (dw : Int))) := Lib.hid (by
            unfold brkB
            rw [H8.out, hdw]
            by_cases e : d2.writes = dw
            · rw [e]; simp
            · have e2 : ((d2.writes : Int) != (dw : Int)) = true := by rw [bne_iff_ne]; omega
              rw [e2]; simp [e])
          generalize ((d2.writes : Int) != (dw : Int)) = bk at *
          go_wp2_with fail
          go_ret
          exact ⟨z2, d2, g, L, q, rfl, HEND.out, ⟨(HD9.out _).1, (HD9.out _).2.1, by rw [HBK.out]; exact HS9.out _⟩, (HD9.out _).2.2, .inl rfl⟩
        · have H8 := Lib.hid h8
          have g8 : ((z2 : Int) != 8) = true := by rw [bne_iff_ne]; omega
          clear h8
          go_upto_region 15 with (fail)
          apply wp_region_relS 14 [(Sum.inl _ : TT), (Sum.inl _ : TT), (Sum.inl _ : TT), (Sum.inl _ : TT), (Sum.inl _ : TT), (Sum.inl _ : TT), (Sum.inl _ : TT), (Sum.inl _ : TT), (Sum.inl _ : TT), (Sum.inl _ : TT), (Sum.inl _ : TT), (Sum.inl _ : TT), (Sum.inl _ : TT), (Sum.inl _ : TT)] (by kernel_rfl) (by kernel_rfl) rfl
          simp only [List.take_succ_cons, List.take_zero, List.drop_succ_cons, List.drop_zero]
          iterate 14 (apply rel_isS; (intro W hW hf; obtain ⟨x0, x1, x2, x3, x4⟩ := T.out W hW; go_simp; first | exact ⟨StayS.refl _ _, rfl⟩ | rfl); simp only [Act.put, List.setIfInBounds_toArray, List.set_cons_succ, List.set_cons_zero])
          refine rel_endS ?_
          intro W hW hf
          try simp only [Act.put, List.setIfInBounds_toArray, List.set_cons_succ, List.set_cons_zero]
          have HFW := Lib.hid (HF.out.below hW); have HBW2 := Lib.hid (HBW.out.trans (.of_below hW))
          have hst := HFW.out.sto.st
          have c5 := (hst.cells (Below.refl _ _)).2.2.2.2.2
          have fz := fun i => free_blk hst i
          clear hW hf hst x0 x1 x2 x3 x4
          have HD9 : Hid (∀ u, DiskAt (W.setCell ⟨s, 5, none⟩ u) p m d2 ∧ LogAt (W.setCell ⟨s, 5, none⟩ u) q p L ∧ Bw w (W.setCell ⟨s, 5, none⟩ u) [p, m, s]) := Lib.hid (fun u => ⟨HFW.out.sto.disk.set c5 rfl HFW.out.ne.2.2.2.1 _, (Below.heap_setCell _ _ _ _ (by simpa using HFW.out.ne.2.2.2.2.2.symm)).trans HFW.out.sto.log, HBW2.out.trans (((Ow.refl W s).set 5 u).bw.more (by simp))⟩)
          have HS9 : Hid (∀ c, StoreAt (W.setCell ⟨s, 5, none⟩ (.bool c)) s p base R (g : Nat) (.pointer (some ⟨q, 0, none⟩)) c) := Lib.hid (fun c => set_blk HFW.out.sto.st 5 _)
          have HBK : Hid (brkB z2 d d2 = true) := Lib.hid (by
            unfold brkB
            rw [decide_eq_true HZ.out, decide_eq_true H8.out]; rfl)
          go_wp2_with fail
          go_ret
          exact ⟨z2, d2, g, L, q, rfl, HEND.out, ⟨(HD9.out _).1, (HD9.out _).2.1, by rw [HBK.out]; exact HS9.out _⟩, (HD9.out _).2.2, .inl rfl⟩
    · have HW6 := Lib.hid hw6; have HCP := Lib.hid hcap
      have HH0 := Lib.hid h0
      clear h0
      clear hw6 hcap
      obtain ⟨y0, y1, y2⟩ := TF.out wr HW6.out
      have y3 := cell_blk y0 2
      simp only [List.getElem?_toArray, List.getElem?_cons_succ, List.getElem?_cons_zero] at y3
      have HCALL := Lib.hid (C3.out wr v HCP.out)
      clear y0 y1 y2
      go_wp2_with fail
      refine HCALL.out.mono ?_
      rintro e w7 ⟨rfl, hd7, hw7⟩
      have HF := Lib.hid (HCP.out.dw hd7 hw7); have HW7 := Lib.hid (HW6.out.trans hw7)
      clear hd7 hw7 HCALL y3
      simp only at HF ⊢
      by_cases hz : z3 = 0
      · subst hz
        go_wp2_with fail
        go_roundw
        case rel => exact ⟨3, by go_num, .inr (.inr (.inr (.inl ⟨rfl, HW7.out, ⟨HH0.out.1, HH0.out.2, rfl⟩, HF.out⟩)))⟩
        case measure => simp [intOf]
      · have HZ := Lib.hid hz
        clear hz
        have HBW := Lib.hid ((Bw.of_below HB06.out).trans (HW7.out.bw.more (T := [p, m, s]) (by simp <;> omega)))
        have HEND : Hid (CEnd (d1, z1) (d2, z2) (d3, z3) (d4, z4) (d5, z5) g L L' z3 d3 g L) := Lib.hid (by unfold CEnd; exact .inr (.inr (.inl ⟨HH0.out.1, HH0.out.2, HZ.out, rfl, rfl, rfl, rfl⟩)))
        clear TF HW6 HCP HW7
        obtain ⟨x0, x1, x2, x3, x4⟩ := HF.out.cells (Below.refl _ _)
        have T := Lib.hid (fun W (hW : Below w7.heap.size w7 W) => HF.out.cells hW)
        have WP : Hid (∀ W, Below w7.heap.size w7 W → Calls Tryz.prog 39 #[.pointer (some ⟨p, 0, none⟩)] W fun e W' => ∃ v, e = .returned v ∧ Below W.heap.size W W' ∧ ttHolds (.inl (.int .i64 (d3.writes : Nat))) v W') := Lib.hid (fun W hW =>
          (writes_at (HF.out.sto.disk.below hW)).mono fun e W' ⟨h1, h2⟩ => ⟨_, h1, by rw [h2]; exact Below.refl _ _, rfl⟩)
        have g0 : ((z3 : Int) != 0) = true := by rw [bne_iff_ne]; have := HZ.out; omega
        have gz : (0 : Int) ≤ z3 := by omega
        by_cases h8 : z3 = 8
        · have H8 := Lib.hid h8
          have g8 : ((z3 : Int) != 8) = false := by rw [bne_eq_false_iff_eq, h8]; rfl
          clear h8
          go_upto_region 15 with (fail)
          apply wp_region_relS 14 [(Sum.inl _ : TT), (Sum.inl _ : TT), (Sum.inl _ : TT), (Sum.inl _ : TT), (Sum.inl _ : TT), (Sum.inl _ : TT), (Sum.inl _ : TT), (Sum.inl _ : TT), (Sum.inl _ : TT), (Sum.inl _ : TT), (Sum.inl _ : TT), (Sum.inl _ : TT), (Sum.inl _ : TT), (Sum.inl _ : TT)] (by kernel_rfl) (by kernel_rfl) rfl
          simp only [List.take_succ_cons, List.take_zero, List.drop_succ_cons, List.drop_zero]
          iterate 8 (apply rel_isS; (intro W hW hf; obtain ⟨x0, x1, x2, x3, x4⟩ := T.out W hW; go_simp; first | exact ⟨StayS.refl _ _, rfl⟩ | rfl); simp only [Act.put, List.setIfInBounds_toArray, List.set_cons_succ, List.set_cons_zero])
          apply rel_isS
          · intro W hW hf
            exact rel_callS hW (by first | rfl | (go_simp; done) | (go_simp; simp)) (by go_simp <;> first | rfl | exact ⟨rfl, rfl⟩ | exact ⟨rfl, rfl, rfl⟩) (WP.out W hW)
          simp only [Act.put, List.setIfInBounds_toArray, List.set_cons_succ, List.set_cons_zero]
          iterate 5 (apply rel_isS; (intro W hW hf; obtain ⟨x0, x1, x2, x3, x4⟩ := T.out W hW; go_simp; first | exact ⟨StayS.refl _ _, rfl⟩ | rfl); simp only [Act.put, List.setIfInBounds_toArray, List.set_cons_succ, List.set_cons_zero])
          refine rel_endS ?_
          intro W hW hf
          try simp only [Act.put, List.setIfInBounds_toArray, List.set_cons_succ, List.set_cons_zero]
          have HFW := Lib.hid (HF.out.below hW); have HBW2 := Lib.hid (HBW.out.trans (.of_below hW))
          have hst := HFW.out.sto.st
          have c5 := (hst.cells (Below.refl _ _)).2.2.2.2.2
          have fz := fun i => free_blk hst i
          clear hW hf hst x0 x1 x2 x3 x4
          have HD9 : Hid (∀ u, DiskAt (W.setCell ⟨s, 5, none⟩ u) p m d3 ∧ LogAt (W.setCell ⟨s, 5, none⟩ u) q p L ∧ Bw w (W.setCell ⟨s, 5, none⟩ u) [p, m, s]) := Lib.hid (fun u => ⟨HFW.out.sto.disk.set c5 rfl HFW.out.ne.2.2.2.1 _, (Below.heap_setCell _ _ _ _ (by simpa using HFW.out.ne.2.2.2.2.2.symm)).trans HFW.out.sto.log, HBW2.out.trans (((Ow.refl W s).set 5 u).bw.more (by simp))⟩)
          have HS9 : Hid (∀ c, StoreAt (W.setCell ⟨s, 5, none⟩ (.bool c)) s p base R (g : Nat) (.pointer (some ⟨q, 0, none⟩)) c) := Lib.hid (fun c => set_blk HFW.out.sto.st 5 _)
          have HBK : Hid (brkB z3 d d3 = ((d3.writes : Int) != (dw : Int))) := Lib.hid (by
            unfold brkB
            rw [H8.out, hdw]
            by_cases e : d3.writes = dw
            · rw [e]; simp
            · have e2 : ((d3.writes : Int) != (dw : Int)) = true := by rw [bne_iff_ne]; omega
              rw [e2]; simp [e])
          generalize ((d3.writes : Int) != (dw : Int)) = bk at *
          go_wp2_with fail
          go_ret
          exact ⟨z3, d3, g, L, q, rfl, HEND.out, ⟨(HD9.out _).1, (HD9.out _).2.1, by rw [HBK.out]; exact HS9.out _⟩, (HD9.out _).2.2, .inl rfl⟩
        · have H8 := Lib.hid h8
          have g8 : ((z3 : Int) != 8) = true := by rw [bne_iff_ne]; omega
          clear h8
          go_upto_region 15 with (fail)
          apply wp_region_relS 14 [(Sum.inl _ : TT), (Sum.inl _ : TT), (Sum.inl _ : TT), (Sum.inl _ : TT), (Sum.inl _ : TT), (Sum.inl _ : TT), (Sum.inl _ : TT), (Sum.inl _ : TT), (Sum.inl _ : TT), (Sum.inl _ : TT), (Sum.inl _ : TT), (Sum.inl _ : TT), (Sum.inl _ : TT), (Sum.inl _ : TT)] (by kernel_rfl) (by kernel_rfl) rfl
          simp only [List.take_succ_cons, List.take_zero, List.drop_succ_cons, List.drop_zero]
          iterate 14 (apply rel_isS; (intro W hW hf; obtain ⟨x0, x1, x2, x3, x4⟩ := T.out W hW; go_simp; first | exact ⟨StayS.refl _ _, rfl⟩ | rfl); simp only [Act.put, List.setIfInBounds_toArray, List.set_cons_succ, List.set_cons_zero])
          refine rel_endS ?_
          intro W hW hf
          try simp only [Act.put, List.setIfInBounds_toArray, List.set_cons_succ, List.set_cons_zero]
          have HFW := Lib.hid (HF.out.below hW); have HBW2 := Lib.hid (HBW.out.trans (.of_below hW))
          have hst := HFW.out.sto.st
          have c5 := (hst.cells (Below.refl _ _)).2.2.2.2.2
          have fz := fun i => free_blk hst i
          clear hW hf hst x0 x1 x2 x3 x4
          have HD9 : Hid (∀ u, DiskAt (W.setCell ⟨s, 5, none⟩ u) p m d3 ∧ LogAt (W.setCell ⟨s, 5, none⟩ u) q p L ∧ Bw w (W.setCell ⟨s, 5, none⟩ u) [p, m, s]) := Lib.hid (fun u => ⟨HFW.out.sto.disk.set c5 rfl HFW.out.ne.2.2.2.1 _, (Below.heap_setCell _ _ _ _ (by simpa using HFW.out.ne.2.2.2.2.2.symm)).trans HFW.out.sto.log, HBW2.out.trans (((Ow.refl W s).set 5 u).bw.more (by simp))⟩)
          have HS9 : Hid (∀ c, StoreAt (W.setCell ⟨s, 5, none⟩ (.bool c)) s p base R (g : Nat) (.pointer (some ⟨q, 0, none⟩)) c) := Lib.hid (fun c => set_blk HFW.out.sto.st 5 _)
          have HBK : Hid (brkB z3 d d3 = true) := Lib.hid (by
            unfold brkB
            rw [decide_eq_true HZ.out, decide_eq_true H8.out]; rfl)
          go_wp2_with fail
          go_ret
          exact ⟨z3, d3, g, L, q, rfl, HEND.out, ⟨(HD9.out _).1, (HD9.out _).2.1, by rw [HBK.out]; exact HS9.out _⟩, (HD9.out _).2.2, .inl rfl⟩
    · have HW6 := Lib.hid hw6; have HCP := Lib.hid hcap
      have HH0 := Lib.hid h0
      clear h0
      clear hw6 hcap
      obtain ⟨y0, y1, y2⟩ := TF.out wr HW6.out
      have y3 := cell_blk y0 3
      simp only [List.getElem?_toArray, List.getElem?_cons_succ, List.getElem?_cons_zero] at y3
      have HCALL := Lib.hid (C4.out wr v HCP.out)
      clear y0 y1 y2
      go_wp2_with fail
      refine HCALL.out.mono ?_
      rintro e w7 ⟨rfl, hd7, hw7⟩
      have HF := Lib.hid (HCP.out.dw hd7 hw7); have HW7 := Lib.hid (HW6.out.trans hw7)
      clear hd7 hw7 HCALL y3
      simp only at HF ⊢
      by_cases hz : z4 = 0
      · subst hz
        go_wp2_with fail
        go_roundw
        case rel => exact ⟨4, by go_num, .inr (.inr (.inr (.inr (.inl ⟨rfl, HW7.out, ⟨HH0.out.1, HH0.out.2.1, HH0.out.2.2, rfl⟩, HF.out⟩))))⟩
        case measure => simp [intOf]
      · have HZ := Lib.hid hz
        clear hz
        have HBW := Lib.hid ((Bw.of_below HB06.out).trans (HW7.out.bw.more (T := [p, m, s]) (by simp <;> omega)))
        have HEND : Hid (CEnd (d1, z1) (d2, z2) (d3, z3) (d4, z4) (d5, z5) g L L' z4 d4 g L) := Lib.hid (by unfold CEnd; exact .inr (.inr (.inr (.inl ⟨HH0.out.1, HH0.out.2.1, HH0.out.2.2, HZ.out, rfl, rfl, rfl, rfl⟩))))
        clear TF HW6 HCP HW7
        obtain ⟨x0, x1, x2, x3, x4⟩ := HF.out.cells (Below.refl _ _)
        have T := Lib.hid (fun W (hW : Below w7.heap.size w7 W) => HF.out.cells hW)
        have WP : Hid (∀ W, Below w7.heap.size w7 W → Calls Tryz.prog 39 #[.pointer (some ⟨p, 0, none⟩)] W fun e W' => ∃ v, e = .returned v ∧ Below W.heap.size W W' ∧ ttHolds (.inl (.int .i64 (d4.writes : Nat))) v W') := Lib.hid (fun W hW =>
          (writes_at (HF.out.sto.disk.below hW)).mono fun e W' ⟨h1, h2⟩ => ⟨_, h1, by rw [h2]; exact Below.refl _ _, rfl⟩)
        have g0 : ((z4 : Int) != 0) = true := by rw [bne_iff_ne]; have := HZ.out; omega
        have gz : (0 : Int) ≤ z4 := by omega
        by_cases h8 : z4 = 8
        · have H8 := Lib.hid h8
          have g8 : ((z4 : Int) != 8) = false := by rw [bne_eq_false_iff_eq, h8]; rfl
          clear h8
          go_upto_region 15 with (fail)
          apply wp_region_relS 14 [(Sum.inl _ : TT), (Sum.inl _ : TT), (Sum.inl _ : TT), (Sum.inl _ : TT), (Sum.inl _ : TT), (Sum.inl _ : TT), (Sum.inl _ : TT), (Sum.inl _ : TT), (Sum.inl _ : TT), (Sum.inl _ : TT), (Sum.inl _ : TT), (Sum.inl _ : TT), (Sum.inl _ : TT), (Sum.inl _ : TT)] (by kernel_rfl) (by kernel_rfl) rfl
          simp only [List.take_succ_cons, List.take_zero, List.drop_succ_cons, List.drop_zero]
          iterate 8 (apply rel_isS; (intro W hW hf; obtain ⟨x0, x1, x2, x3, x4⟩ := T.out W hW; go_simp; first | exact ⟨StayS.refl _ _, rfl⟩ | rfl); simp only [Act.put, List.setIfInBounds_toArray, List.set_cons_succ, List.set_cons_zero])
          apply rel_isS
          · intro W hW hf
            exact rel_callS hW (by first | rfl | (go_simp; done) | (go_simp; simp)) (by go_simp <;> first | rfl | exact ⟨rfl, rfl⟩ | exact ⟨rfl, rfl, rfl⟩) (WP.out W hW)
          simp only [Act.put, List.setIfInBounds_toArray, List.set_cons_succ, List.set_cons_zero]
          iterate 5 (apply rel_isS; (intro W hW hf; obtain ⟨x0, x1, x2, x3, x4⟩ := T.out W hW; go_simp; first | exact ⟨StayS.refl _ _, rfl⟩ | rfl); simp only [Act.put, List.setIfInBounds_toArray, List.set_cons_succ, List.set_cons_zero])
          refine rel_endS ?_
          intro W hW hf
          try simp only [Act.put, List.setIfInBounds_toArray, List.set_cons_succ, List.set_cons_zero]
          have HFW := Lib.hid (HF.out.below hW); have HBW2 := Lib.hid (HBW.out.trans (.of_below hW))
          have hst := HFW.out.sto.st
          have c5 := (hst.cells (Below.refl _ _)).2.2.2.2.2
          have fz := fun i => free_blk hst i
          clear hW hf hst x0 x1 x2 x3 x4
          have HD9 : Hid (∀ u, DiskAt (W.setCell ⟨s, 5, none⟩ u) p m d4 ∧ LogAt (W.setCell ⟨s, 5, none⟩ u) q p L ∧ Bw w (W.setCell ⟨s, 5, none⟩ u) [p, m, s]) := Lib.hid (fun u => ⟨HFW.out.sto.disk.set c5 rfl HFW.out.ne.2.2.2.1 _, (Below.heap_setCell _ _ _ _ (by simpa using HFW.out.ne.2.2.2.2.2.symm)).trans HFW.out.sto.log, HBW2.out.trans (((Ow.refl W s).set 5 u).bw.more (by simp))⟩)
          have HS9 : Hid (∀ c, StoreAt (W.setCell ⟨s, 5, none⟩ (.bool c)) s p base R (g : Nat) (.pointer (some ⟨q, 0, none⟩)) c) := Lib.hid (fun c => set_blk HFW.out.sto.st 5 _)
          have HBK : Hid (brkB z4 d d4 = ((d4.writes : Int) != (dw : Int))) := Lib.hid (by
            unfold brkB
            rw [H8.out, hdw]
            by_cases e : d4.writes = dw
            · rw [e]; simp
            · have e2 : ((d4.writes : Int) != (dw : Int)) = true := by rw [bne_iff_ne]; omega
              rw [e2]; simp [e])
          generalize ((d4.writes : Int) != (dw : Int)) = bk at *
          go_wp2_with fail
          go_ret
          exact ⟨z4, d4, g, L, q, rfl, HEND.out, ⟨(HD9.out _).1, (HD9.out _).2.1, by rw [HBK.out]; exact HS9.out _⟩, (HD9.out _).2.2, .inl rfl⟩
        · have H8 := Lib.hid h8
          have g8 : ((z4 : Int) != 8) = true := by rw [bne_iff_ne]; omega
          clear h8
          go_upto_region 15 with (fail)
          apply wp_region_relS 14 [(Sum.inl _ : TT), (Sum.inl _ : TT), (Sum.inl _ : TT), (Sum.inl _ : TT), (Sum.inl _ : TT), (Sum.inl _ : TT), (Sum.inl _ : TT), (Sum.inl _ : TT), (Sum.inl _ : TT), (Sum.inl _ : TT), (Sum.inl _ : TT), (Sum.inl _ : TT), (Sum.inl _ : TT), (Sum.inl _ : TT)] (by kernel_rfl) (by kernel_rfl) rfl
          simp only [List.take_succ_cons, List.take_zero, List.drop_succ_cons, List.drop_zero]
          iterate 14 (apply rel_isS; (intro W hW hf; obtain ⟨x0, x1, x2, x3, x4⟩ := T.out W hW; go_simp; first | exact ⟨StayS.refl _ _, rfl⟩ | rfl); simp only [Act.put, List.setIfInBounds_toArray, List.set_cons_succ, List.set_cons_zero])
          refine rel_endS ?_
          intro W hW hf
          try simp only [Act.put, List.setIfInBounds_toArray, List.set_cons_succ, List.set_cons_zero]
          have HFW := Lib.hid (HF.out.below hW); have HBW2 := Lib.hid (HBW.out.trans (.of_below hW))
          have hst := HFW.out.sto.st
          have c5 := (hst.cells (Below.refl _ _)).2.2.2.2.2
          have fz := fun i => free_blk hst i
          clear hW hf hst x0 x1 x2 x3 x4
          have HD9 : Hid (∀ u, DiskAt (W.setCell ⟨s, 5, none⟩ u) p m d4 ∧ LogAt (W.setCell ⟨s, 5, none⟩ u) q p L ∧ Bw w (W.setCell ⟨s, 5, none⟩ u) [p, m, s]) := Lib.hid (fun u => ⟨HFW.out.sto.disk.set c5 rfl HFW.out.ne.2.2.2.1 _, (Below.heap_setCell _ _ _ _ (by simpa using HFW.out.ne.2.2.2.2.2.symm)).trans HFW.out.sto.log, HBW2.out.trans (((Ow.refl W s).set 5 u).bw.more (by simp))⟩)
          have HS9 : Hid (∀ c, StoreAt (W.setCell ⟨s, 5, none⟩ (.bool c)) s p base R (g : Nat) (.pointer (some ⟨q, 0, none⟩)) c) := Lib.hid (fun c => set_blk HFW.out.sto.st 5 _)
          have HBK : Hid (brkB z4 d d4 = true) := Lib.hid (by
            unfold brkB
            rw [decide_eq_true HZ.out, decide_eq_true H8.out]; rfl)
          go_wp2_with fail
          go_ret
          exact ⟨z4, d4, g, L, q, rfl, HEND.out, ⟨(HD9.out _).1, (HD9.out _).2.1, by rw [HBK.out]; exact HS9.out _⟩, (HD9.out _).2.2, .inl rfl⟩
    · have HW6 := Lib.hid hw6; have HCP := Lib.hid hcap
      have HH0 := Lib.hid h0
      clear h0
      clear hw6 hcap
      obtain ⟨y0, y1, y2⟩ := TF.out wr HW6.out
      have y3 := cell_blk y0 4
      simp only [List.getElem?_toArray, List.getElem?_cons_succ, List.getElem?_cons_zero] at y3
      have HCALL := Lib.hid (C5.out HH0.out wr v HCP.out)
      clear y0 y1 y2
      go_wp2_with fail
      refine HCALL.out.mono ?_
      rintro e w7 ⟨rfl, ⟨q', hc7, hq7⟩, hw7⟩
      have HF := Lib.hid hc7; have HBW := Lib.hid ((Bw.of_below HB06.out).trans ((HW6.out.bw.more (T := [p, m, s]) (by simp <;> omega)).trans hw7)); have HBW6 := Lib.hid ((HW6.out.bw.more (T := [p, m, s]) (by simp <;> omega)).trans hw7)
      have HQ6 : Hid (w6.heap.size ≤ q') := Lib.hid (Nat.le_trans HW6.out.size hq7)
      have HQ : Hid (q' = q ∨ w.heap.size ≤ q') := Lib.hid (.inr (Nat.le_trans HB06.out.size HQ6.out))
      clear hc7 hw7 HCALL y3 hq7
      simp only at HF ⊢
      rw [show ((g : Int) + 1) = ((g + 1 : Nat) : Int) by omega] at HF
      by_cases hz : z5 = 0
      · subst hz
        go_wp2_with fail
        go_roundw
        case rel => exact ⟨5, by go_num, .inr (.inr (.inr (.inr (.inr ⟨rfl, ⟨HH0.out.1, HH0.out.2.1, HH0.out.2.2.1, HH0.out.2.2.2, rfl⟩, HBW6.out, q', HF.out, HQ6.out⟩))))⟩
        case measure => simp [intOf]
      · have HZ := Lib.hid hz
        clear hz
        have HEND : Hid (CEnd (d1, z1) (d2, z2) (d3, z3) (d4, z4) (d5, z5) g L L' z5 d5 (g + 1) L') := Lib.hid (by unfold CEnd; exact .inr (.inr (.inr (.inr ⟨HH0.out.1, HH0.out.2.1, HH0.out.2.2.1, HH0.out.2.2.2, rfl, rfl, rfl, rfl⟩))))
        clear TF HW6 HCP HBW6
        obtain ⟨x0, x1, x2, x3, x4⟩ := HF.out.cells (Below.refl _ _)
        have T := Lib.hid (fun W (hW : Below w7.heap.size w7 W) => HF.out.cells hW)
        have WP : Hid (∀ W, Below w7.heap.size w7 W → Calls Tryz.prog 39 #[.pointer (some ⟨p, 0, none⟩)] W fun e W' => ∃ v, e = .returned v ∧ Below W.heap.size W W' ∧ ttHolds (.inl (.int .i64 (d5.writes : Nat))) v W') := Lib.hid (fun W hW =>
          (writes_at (HF.out.sto.disk.below hW)).mono fun e W' ⟨h1, h2⟩ => ⟨_, h1, by rw [h2]; exact Below.refl _ _, rfl⟩)
        have g0 : ((z5 : Int) != 0) = true := by rw [bne_iff_ne]; have := HZ.out; omega
        have gz : (0 : Int) ≤ z5 := by omega
        by_cases h8 : z5 = 8
        · have H8 := Lib.hid h8
          have g8 : ((z5 : Int) != 8) = false := by rw [bne_eq_false_iff_eq, h8]; rfl
          clear h8
          go_upto_region 15 with (fail)
          apply wp_region_relS 14 [(Sum.inl _ : TT), (Sum.inl _ : TT), (Sum.inl _ : TT), (Sum.inl _ : TT), (Sum.inl _ : TT), (Sum.inl _ : TT), (Sum.inl _ : TT), (Sum.inl _ : TT), (Sum.inl _ : TT), (Sum.inl _ : TT), (Sum.inl _ : TT), (Sum.inl _ : TT), (Sum.inl _ : TT), (Sum.inl _ : TT)] (by kernel_rfl) (by kernel_rfl) rfl
          simp only [List.take_succ_cons, List.take_zero, List.drop_succ_cons, List.drop_zero]
          iterate 8 (apply rel_isS; (intro W hW hf; obtain ⟨x0, x1, x2, x3, x4⟩ := T.out W hW; go_simp; first | exact ⟨StayS.refl _ _, rfl⟩ | rfl); simp only [Act.put, List.setIfInBounds_toArray, List.set_cons_succ, List.set_cons_zero])
          apply rel_isS
          · intro W hW hf
            exact rel_callS hW (by first | rfl | (go_simp; done) | (go_simp; simp)) (by go_simp <;> first | rfl | exact ⟨rfl, rfl⟩ | exact ⟨rfl, rfl, rfl⟩) (WP.out W hW)
          simp only [Act.put, List.setIfInBounds_toArray, List.set_cons_succ, List.set_cons_zero]
          iterate 5 (apply rel_isS; (intro W hW hf; obtain ⟨x0, x1, x2, x3, x4⟩ := T.out W hW; go_simp; first | exact ⟨StayS.refl _ _, rfl⟩ | rfl); simp only [Act.put, List.setIfInBounds_toArray, List.set_cons_succ, List.set_cons_zero])
          refine rel_endS ?_
          intro W hW hf
          try simp only [Act.put, List.setIfInBounds_toArray, List.set_cons_succ, List.set_cons_zero]
          have HFW := Lib.hid (HF.out.below hW); have HBW2 := Lib.hid (HBW.out.trans (.of_below hW))
          have hst := HFW.out.sto.st
          have c5 := (hst.cells (Below.refl _ _)).2.2.2.2.2
          have fz := fun i => free_blk hst i
          clear hW hf hst x0 x1 x2 x3 x4
          have HD9 : Hid (∀ u, DiskAt (W.setCell ⟨s, 5, none⟩ u) p m d5 ∧ LogAt (W.setCell ⟨s, 5, none⟩ u) q' p L' ∧ Bw w (W.setCell ⟨s, 5, none⟩ u) [p, m, s]) := Lib.hid (fun u => ⟨HFW.out.sto.disk.set c5 rfl HFW.out.ne.2.2.2.1 _, (Below.heap_setCell _ _ _ _ (by simpa using HFW.out.ne.2.2.2.2.2.symm)).trans HFW.out.sto.log, HBW2.out.trans (((Ow.refl W s).set 5 u).bw.more (by simp))⟩)
          have HS9 : Hid (∀ c, StoreAt (W.setCell ⟨s, 5, none⟩ (.bool c)) s p base R ((g + 1 : Nat) : Int) (.pointer (some ⟨q', 0, none⟩)) c) := Lib.hid (fun c => set_blk HFW.out.sto.st 5 _)
          have HBK : Hid (brkB z5 d d5 = ((d5.writes : Int) != (dw : Int))) := Lib.hid (by
            unfold brkB
            rw [H8.out, hdw]
            by_cases e : d5.writes = dw
            · rw [e]; simp
            · have e2 : ((d5.writes : Int) != (dw : Int)) = true := by rw [bne_iff_ne]; omega
              rw [e2]; simp [e])
          generalize ((d5.writes : Int) != (dw : Int)) = bk at *
          go_wp2_with fail
          go_ret
          exact ⟨z5, d5, (g + 1), L', q', rfl, HEND.out, ⟨(HD9.out _).1, (HD9.out _).2.1, by rw [HBK.out]; exact HS9.out _⟩, (HD9.out _).2.2, HQ.out⟩
        · have H8 := Lib.hid h8
          have g8 : ((z5 : Int) != 8) = true := by rw [bne_iff_ne]; omega
          clear h8
          go_upto_region 15 with (fail)
          apply wp_region_relS 14 [(Sum.inl _ : TT), (Sum.inl _ : TT), (Sum.inl _ : TT), (Sum.inl _ : TT), (Sum.inl _ : TT), (Sum.inl _ : TT), (Sum.inl _ : TT), (Sum.inl _ : TT), (Sum.inl _ : TT), (Sum.inl _ : TT), (Sum.inl _ : TT), (Sum.inl _ : TT), (Sum.inl _ : TT), (Sum.inl _ : TT)] (by kernel_rfl) (by kernel_rfl) rfl
          simp only [List.take_succ_cons, List.take_zero, List.drop_succ_cons, List.drop_zero]
          iterate 14 (apply rel_isS; (intro W hW hf; obtain ⟨x0, x1, x2, x3, x4⟩ := T.out W hW; go_simp; first | exact ⟨StayS.refl _ _, rfl⟩ | rfl); simp only [Act.put, List.setIfInBounds_toArray, List.set_cons_succ, List.set_cons_zero])
          refine rel_endS ?_
          intro W hW hf
          try simp only [Act.put, List.setIfInBounds_toArray, List.set_cons_succ, List.set_cons_zero]
          have HFW := Lib.hid (HF.out.below hW); have HBW2 := Lib.hid (HBW.out.trans (.of_below hW))
          have hst := HFW.out.sto.st
          have c5 := (hst.cells (Below.refl _ _)).2.2.2.2.2
          have fz := fun i => free_blk hst i
          clear hW hf hst x0 x1 x2 x3 x4
          have HD9 : Hid (∀ u, DiskAt (W.setCell ⟨s, 5, none⟩ u) p m d5 ∧ LogAt (W.setCell ⟨s, 5, none⟩ u) q' p L' ∧ Bw w (W.setCell ⟨s, 5, none⟩ u) [p, m, s]) := Lib.hid (fun u => ⟨HFW.out.sto.disk.set c5 rfl HFW.out.ne.2.2.2.1 _, (Below.heap_setCell _ _ _ _ (by simpa using HFW.out.ne.2.2.2.2.2.symm)).trans HFW.out.sto.log, HBW2.out.trans (((Ow.refl W s).set 5 u).bw.more (by simp))⟩)
          have HS9 : Hid (∀ c, StoreAt (W.setCell ⟨s, 5, none⟩ (.bool c)) s p base R ((g + 1 : Nat) : Int) (.pointer (some ⟨q', 0, none⟩)) c) := Lib.hid (fun c => set_blk HFW.out.sto.st 5 _)
          have HBK : Hid (brkB z5 d d5 = true) := Lib.hid (by
            unfold brkB
            rw [decide_eq_true HZ.out, decide_eq_true H8.out]; rfl)
          go_wp2_with fail
          go_ret
          exact ⟨z5, d5, (g + 1), L', q', rfl, HEND.out, ⟨(HD9.out _).1, (HD9.out _).2.1, by rw [HBK.out]; exact HS9.out _⟩, (HD9.out _).2.2, HQ.out⟩
    · have HF := Lib.hid hcap; have HBW := Lib.hid ((Bw.of_below HB06.out).trans hbw); have HH0 := Lib.hid h0
      have HQ : Hid (q' = q ∨ w.heap.size ≤ q') := Lib.hid (.inr (Nat.le_trans HB06.out.size hq'))
      clear hcap hbw h0 TF hq'
      have HEND : Hid (CEnd (d1, z1) (d2, z2) (d3, z3) (d4, z4) (d5, z5) g L L' 0 d5 (g + 1) L') := Lib.hid (by unfold CEnd; exact .inr (.inr (.inr (.inr ⟨HH0.out.1, HH0.out.2.1, HH0.out.2.2.1, HH0.out.2.2.2.1, HH0.out.2.2.2.2.symm, rfl, rfl, rfl⟩))))
      go_wp2_with fail
      go_ret
      exact ⟨0, d5, g + 1, L', q', rfl, HEND.out, ⟨HF.out.sto.disk, HF.out.sto.log, HF.out.sto.st⟩, HBW.out, HQ.out⟩
end Go.Proofs.YtegekaocbalndaaGreatDoor
end

section
set_option linter.unusedSimpArgs false
set_option linter.unusedVariables false
namespace Go.Proofs.YtegekaocbalndaaGreatDoor
open Go.RowKit

def unames (base : Nm) (g : Nat) : List Nm := [snapN base, tmpN base, logN base g, logN base (g + 1)] ++ (if 0 < g then [logN base (g - 1)] else [])
def usum (d : Dk) (ks : List Nm) : Nat := (ks.map fun k => (d.file k).b.length).sum
theorem usum_succ (d : Dk) (ks : List Nm) (i : Nat) (h : i < ks.length) : usum d (ks.take (i + 1)) = usum d (ks.take i) + (d.file (ks.getD i [])).b.length := by
  unfold usum
  rw [List.take_add_one, List.map_append, List.sum_append]
  simp [List.getElem?_eq_getElem h, List.getD_eq_getElem?_getD]
theorem usum_le {d : Dk} (h : d.Ok) : ∀ ks : List Nm, usum d ks ≤ ks.length * 67108864
  | [] => Nat.zero_le _
  | k :: ks => by
    have h1 := (h.file k).2; have h2 := h.used; have h3 := h.size
    have := usum_le h ks
    unfold usum at *
    rw [List.map_cons, List.sum_cons, List.length_cons]
    omega
set_option maxRecDepth 100000 in
set_option maxHeartbeats 4000000 in
theorem sused_at {w : World} {s p m : Nat} {base : Nm} {R : Int} {g : Nat} {lv : Value} {b : Bool} {d : Dk} (h : StoreAt w s p base R (g : Nat) lv b) (hd : DiskAt w p m d) (hb : base.length ≤ 500) (hg : g ≤ 88) :
    Calls Tryz.prog 51 #[.pointer (some ⟨s, 0, none⟩)] w fun e w' => e = .returned (.int .i64 (usum d (unames base g) : Nat)) ∧ Below w.heap.size w w' := by
  have HN := Lib.hid (snone_st h)
  have H := Lib.hid h; have HD0 := Lib.hid hd
  have T := Lib.hid (fun W (hW : Below w.heap.size w W) => h.cells hW)
  have HKA : Hid (∀ k ∈ unames base g, k.length ≤ 1000) := Lib.hid (fun k hk => by
    unfold unames at hk
    have h1 := snapN_len hb; have h2 := tmpN_len hb; have h3 := logN_len hb
    rcases List.mem_append.1 hk with hk | hk
    · simp only [List.mem_cons, List.not_mem_nil, or_false] at hk
      rcases hk with rfl | rfl | rfl | rfl
      · exact h1
      · exact h2
      · exact h3 _
      · exact h3 _
    · split at hk
      · rw [List.mem_singleton.1 hk]; exact h3 _
      · simp at hk)
  clear h hd
  have SP : Hid (∀ W, Below w.heap.size w W → Calls Tryz.prog 26 #[.pointer (some ⟨s, 0, none⟩)] W fun e W' => e = .returned (.string (str (snapN base))) ∧ Below w.heap.size w W' ∧ Below W.heap.size W W') := Lib.hid (fun W hW =>
    (snapshot_at s base (by omega) W (T.out W hW).2.1).mono fun e w' ⟨h1, h2⟩ => ⟨h1, by rw [h2]; exact hW, by rw [h2]; exact Below.refl _ _⟩)
  have DP : Hid (∀ W, Below w.heap.size w W → Calls Tryz.prog 28 #[.pointer (some ⟨s, 0, none⟩)] W fun e W' => e = .returned (.string (str (tmpN base))) ∧ Below w.heap.size w W' ∧ Below W.heap.size W W') := Lib.hid (fun W hW =>
    (draft_at s base (by omega) W (T.out W hW).2.1).mono fun e w' ⟨h1, h2⟩ => ⟨h1, by rw [h2]; exact hW, by rw [h2]; exact Below.refl _ _⟩)
  have LP : Hid (∀ k, k ≤ 90 → ∀ W, Below w.heap.size w W → Calls Tryz.prog 29 #[.pointer (some ⟨s, 0, none⟩), .int .i64 (k : Nat)] W fun e W' => e = .returned (.string (str (logN base k))) ∧ Below w.heap.size w W' ∧ Below W.heap.size W W') := Lib.hid (fun k hk W hW =>
    (logof_at s base (by omega) k (by omega) W (fun W' hW' => (T.out W' (hW.trans (hW'.mono hW.size))).2.1)).mono fun e w' ⟨h1, h2⟩ => ⟨h1, hW.trans (h2.mono hW.size), h2⟩)
  have hwg : IntKind.i64.wrap ((g : Int) + 1) = (g : Int) + 1 := wi64 _ (by omega) (by omega)
  have LP1 := LP.out (g + 1) (by omega)
  rw [show ((g + 1 : Nat) : Int) = (g : Int) + 1 by omega] at LP1
  have LP1 := Lib.hid LP1
  go_enter Tryz.func51, Tryz.ntmps51
  go_wp2_with fail
  refine HN.out.mono ?_
  rintro e w1 ⟨rfl, hw1⟩
  rw [hw1]
  clear hw1 HN
  go_upto_region 4 with (fail)
  apply wp_region_relG (fun W => Below w.heap.size w W) (fun W => True) (fun _ _ => True) 18 [(Sum.inl _ : TG), (Sum.inl _ : TG), (Sum.inl _ : TG), (Sum.inl _ : TG), (Sum.inl _ : TG), (Sum.inl _ : TG), (Sum.inl _ : TG), (Sum.inl _ : TG), (Sum.inl _ : TG), (Sum.inl _ : TG), (Sum.inl _ : TG), (Sum.inl _ : TG), (Sum.inl _ : TG), (Sum.inl _ : TG), (Sum.inl _ : TG), (Sum.inl _ : TG), (Sum.inl _ : TG), (Sum.inr (fun _ _ => True, some (fun v W => W.ownsRow w.heap.size 9 1 v 4 [.string (str (snapN base)), .string (str (tmpN base)), .string (str (logN base g)), .string (str (logN base (g + 1)))])) : TG)] [false, false, false, false, false, false, false, false, false, false, false, false, false, false, false, false, false, true] (by kernel_rfl) (by kernel_rfl) (by kernel_rfl) rfl rfl (fun _ _ _ => trivial) (fun _ _ h _ => h) ((Below.refl _ _).drew) (trivial)
  simp only [List.take_succ_cons, List.take_zero, List.drop_succ_cons, List.drop_zero]
  iterate 1 (apply rel_isG; (intro W hW hf; obtain ⟨x0, x1, x2, x3, x4, x5⟩ := T.out W hW; go_simp; first | exact ⟨⟨hW, Below.refl _ _⟩, rfl⟩ | exact ⟨Below.refl _ _, rfl⟩ | rfl); simp only [Act.put, List.setIfInBounds_toArray, List.set_cons_succ, List.set_cons_zero])
  apply rel_isG
  · intro W hW hf
    exact rel_callV rfl (by go_simp <;> exact ⟨rfl, rfl⟩) (SP.out W hW)
  simp only [Act.put, List.setIfInBounds_toArray, List.set_cons_succ, List.set_cons_zero]
  iterate 1 (apply rel_isG; (intro W hW hf; obtain ⟨x0, x1, x2, x3, x4, x5⟩ := T.out W hW; go_simp; first | exact ⟨⟨hW, Below.refl _ _⟩, rfl⟩ | exact ⟨Below.refl _ _, rfl⟩ | rfl); simp only [Act.put, List.setIfInBounds_toArray, List.set_cons_succ, List.set_cons_zero])
  apply rel_isG
  · intro W hW hf
    exact rel_callV rfl (by go_simp <;> exact ⟨rfl, rfl⟩) (DP.out W hW)
  simp only [Act.put, List.setIfInBounds_toArray, List.set_cons_succ, List.set_cons_zero]
  iterate 5 (apply rel_isG; (intro W hW hf; obtain ⟨x0, x1, x2, x3, x4, x5⟩ := T.out W hW; go_simp; first | exact ⟨⟨hW, Below.refl _ _⟩, rfl⟩ | exact ⟨Below.refl _ _, rfl⟩ | rfl); simp only [Act.put, List.setIfInBounds_toArray, List.set_cons_succ, List.set_cons_zero])
  apply rel_isG
  · intro W hW hf
    exact rel_callV rfl (by go_simp <;> exact ⟨rfl, rfl⟩) (LP.out g (by omega) W hW)
  simp only [Act.put, List.setIfInBounds_toArray, List.set_cons_succ, List.set_cons_zero]
  iterate 6 (apply rel_isG; (intro W hW hf; obtain ⟨x0, x1, x2, x3, x4, x5⟩ := T.out W hW; go_simp; first | exact ⟨⟨hW, Below.refl _ _⟩, rfl⟩ | exact ⟨Below.refl _ _, rfl⟩ | rfl); simp only [Act.put, List.setIfInBounds_toArray, List.set_cons_succ, List.set_cons_zero])
  apply rel_isG
  · intro W hW hf
    exact rel_callV rfl (by go_simp <;> exact ⟨rfl, rfl⟩) (LP1.out W hW)
  simp only [Act.put, List.setIfInBounds_toArray, List.set_cons_succ, List.set_cons_zero]
  apply rel_effG
  · intro W hW hS hf
    refine rel_valG (v := .slice (some ⟨W.heap.size, 0, none⟩) 4 4) (W' := W.alloc (.cells #[.string (str (snapN base)), .string (str (tmpN base)), .string (str (logN base g)), .string (str (logN base (g + 1)))] 9)) rfl (by go_simp) ?_
    exact ⟨hW.trans ((below_alloc W _).mono hW.size), trivial, trivial, ⟨rfl, .inr ⟨W.heap.size, 4, _, rfl, hW.size, heap_alloc_new _ _, Nat.le_refl _, by simp [maxLen], by simp, by simp⟩⟩⟩
  · exact fun _ _ _ _ _ => trivial
  · exact fun v w w' h hb => own_below h hb
  intro v28
  simp only [Act.put, List.setIfInBounds_toArray, List.set_cons_succ, List.set_cons_zero]
  refine rel_endG ?_
  intro W hW hS hf
  try simp only [Act.put, List.setIfInBounds_toArray, List.set_cons_succ, List.set_cons_zero]
  obtain ⟨A28, c28, rfl, hr28, _, hc28⟩ := own_rd hS
  have HW := Lib.hid hW; have HO := Lib.hid hS; have HRD := Lib.hid hr28
  obtain ⟨x0, x1, x2, x3, x4, x5⟩ := T.out W hW
  clear hW hf hS hr28 SP DP LP1
  by_cases hg0 : 0 < g
  · have hg1 : (0 : Int) < (g : Int) := by omega
    have HG0 := Lib.hid hg0
    have LPm := LP.out (g - 1) (by omega)
    rw [show ((g - 1 : Nat) : Int) = (g : Int) - 1 by omega] at LPm
    have hwm : IntKind.i64.wrap ((g : Int) - 1) = (g : Int) - 1 := wi64 _ (by omega) (by omega)
    have LPm := Lib.hid LPm
    go_wp2_with fail
    refine (LPm.out W HW.out).mono ?_
    rintro e w2 ⟨rfl, hb2, hb2'⟩
    have HB2 := Lib.hid hb2; have HO2 := Lib.hid (own_below HO.out hb2')
    clear hb2 hb2' x0 x1 x2 x3 x4 x5 HO HRD
    go_wp2_with (at_builtin; refine wpList_append_one0 EStr rfl (.tmp 34) (.tmp 42) rfl w.heap.size (.string (str (logN base (g - 1)))) rfl _ 4 [.string (str (snapN base)), .string (str (tmpN base)), .string (str (logN base g)), .string (str (logN base (g + 1)))] rfl HO2.out rfl (by omega) (by decide) w (Nat.le_refl _) HB2.out ?_; intro v8 w8 h2 h3 h4 h5; have O8 := Lib.hid h2; have B8 := Lib.hid h3; clear h2 h3 h4 h5; obtain ⟨A8, c8, rfl, hr8, _, hc8⟩ := own_rd O8.out; have R8 := Lib.hid hr8; clear hr8)
    obtain ⟨ks, hks⟩ : ∃ ks, ks = unames base g := ⟨_, rfl⟩
    have HNM := Lib.hid hks
    have HK : Hid (ks.length = 5) := Lib.hid (by rw [hks]; unfold unames; rw [if_pos HG0.out]; rfl)
    have HKS : Hid (∀ k ∈ ks, k.length ≤ 1000) := Lib.hid (by rw [hks]; exact HKA.out)
    have HR : Hid (Nrow w8 w8.heap.size A8 ks) := Lib.hid (Nrow.of_rd (by rw [hks]; unfold unames; rw [if_pos HG0.out]; exact R8.out))
    have HBL := Lib.hid (B8.out)
    have HD := Lib.hid (HD0.out.below HBL.out); have HST := Lib.hid (H.out.below HBL.out)
    clear hks HD0 H HKA
    go_wp2_with fail
    have HLE : Hid (∀ i, usum d (ks.take i) ≤ 400000000) := Lib.hid (fun i => by
      have h1 := usum_le HD.out.ok (ks.take i)
      have h2 : (ks.take i).length ≤ 5 := by rw [List.length_take]; have := HK.out; omega
      omega)
    have HLF : Hid (∀ k, (d.file k).b.length ≤ 67108864) := Lib.hid (fun k => by
      have h1 := (HD.out.ok.file k).2; have h2 := HD.out.ok.used; have h3 := HD.out.ok.size
      omega)
    go_loopw [3, 6, 7, 8, 46] (fun nv _ _ _ iv wr => ∃ i : Nat, i ≤ 5 ∧ iv = .int .i64 i ∧ nv = .int .i64 (usum d (ks.take i) : Nat) ∧ Below w8.heap.size w8 wr) (fun _ _ _ _ iv _ => 5 - (intOf iv).toNat)
    case atStart => exact ⟨0, by omega, rfl, rfl, .refl _ _⟩
    case round =>
      obtain ⟨i, hi, rfl, rfl, hbw⟩ := hrel
      have HB := Lib.hid hbw
      clear hbw
      by_cases hlt : i < 5
      · obtain ⟨bl, off, rfl, hbl, hcl⟩ := (HR.out.below HB.out) i (by have := HK.out; omega)
        have HSU : Hid (usum d (ks.take (i + 1)) = usum d (ks.take i) + (d.file (ks.getD i [])).b.length) := Lib.hid (usum_succ d ks i (by have := HK.out; omega))
        have HKL : Hid ((ks.getD i []).length ≤ 1000) := Lib.hid (by
          rw [List.getD_eq_getElem?_getD, List.getElem?_eq_getElem (by have := HK.out; omega)]
          exact HKS.out _ (List.getElem_mem _))
        have hf := HLF.out (ks.getD i []); have hs := HLE.out i
        have HTH := there_at (HD.out.below HB.out) (ks.getD i []) (by have := HKL.out; omega)
        rw [read_b] at HTH
        have HTH := Lib.hid HTH
        generalize ks.getD i [] = k at *
        generalize usum d (ks.take i) = su at *
        obtain ⟨nk, hnk⟩ : ∃ nk, nk = (d.file k).b.length := ⟨_, rfl⟩
        rw [← hnk] at HTH HSU hf
        have hw : IntKind.i64.wrap ((su : Int) + nk) = (su : Int) + nk := wi64 _ (by omega) (by omega)
        obtain ⟨t0, t1, t2, t3, t4, t5⟩ := HST.out.cells HB.out
        clear hnk
        go_wp2_with fail
        refine HTH.out.mono ?_
        rintro e w7 ⟨A7, c7, rfl, _, _, _, hb7⟩
        have HB7 := Lib.hid (HB.out.trans (hb7.mono HB.out.size))
        clear hb7 HTH hcl t0 t1 t2 t3 t4 t5
        go_wp2_with fail
        go_roundw
        case rel => exact ⟨i + 1, by omega, by go_num, by rw [HSU.out]; rfl, HB7.out⟩
        case measure => simp [intOf]; omega
      · obtain rfl : i = 5 := by omega
        have HALL : Hid (usum d (ks.take 5) = usum d ks) := Lib.hid (by rw [List.take_of_length_le (by have := HK.out; omega)])
        go_wp2_with fail
        go_ret
        have HV : Ending.returned (.int .i64 ((usum d (ks.take 5) : Nat) : Int)) = .returned (.int .i64 ((usum d (unames base g) : Nat) : Int)) := by rw [HALL.out, HNM.out]
        exact ⟨HV, HBL.out.trans (HB.out.mono HBL.out.size)⟩
  · have hg1 : ¬ (0 : Int) < (g : Int) := by omega
    have HG0 := Lib.hid hg0
    have hgd : decide ((0 : Int) < (g : Int)) = false := decide_eq_false hg1
    obtain ⟨ks, hks⟩ : ∃ ks, ks = unames base g := ⟨_, rfl⟩
    have HNM := Lib.hid hks
    have HK : Hid (ks.length = 4) := Lib.hid (by rw [hks]; unfold unames; rw [if_neg HG0.out]; rfl)
    have HKS : Hid (∀ k ∈ ks, k.length ≤ 1000) := Lib.hid (by rw [hks]; exact HKA.out)
    have HR : Hid (Nrow W W.heap.size A28 ks) := Lib.hid (Nrow.of_rd (by rw [hks]; unfold unames; rw [if_neg HG0.out]; exact HRD.out))
    have HBL := Lib.hid (HW.out)
    have HD := Lib.hid (HD0.out.below HBL.out); have HST := Lib.hid (H.out.below HBL.out)
    clear hks HD0 H HKA
    go_wp2_with fail
    have HLE : Hid (∀ i, usum d (ks.take i) ≤ 400000000) := Lib.hid (fun i => by
      have h1 := usum_le HD.out.ok (ks.take i)
      have h2 : (ks.take i).length ≤ 5 := by rw [List.length_take]; have := HK.out; omega
      omega)
    have HLF : Hid (∀ k, (d.file k).b.length ≤ 67108864) := Lib.hid (fun k => by
      have h1 := (HD.out.ok.file k).2; have h2 := HD.out.ok.used; have h3 := HD.out.ok.size
      omega)
    go_loopw [3, 6, 7, 8, 46] (fun nv _ _ _ iv wr => ∃ i : Nat, i ≤ 4 ∧ iv = .int .i64 i ∧ nv = .int .i64 (usum d (ks.take i) : Nat) ∧ Below W.heap.size W wr) (fun _ _ _ _ iv _ => 4 - (intOf iv).toNat)
    case atStart => exact ⟨0, by omega, rfl, rfl, .refl _ _⟩
    case round =>
      obtain ⟨i, hi, rfl, rfl, hbw⟩ := hrel
      have HB := Lib.hid hbw
      clear hbw
      by_cases hlt : i < 4
      · obtain ⟨bl, off, rfl, hbl, hcl⟩ := (HR.out.below HB.out) i (by have := HK.out; omega)
        have HSU : Hid (usum d (ks.take (i + 1)) = usum d (ks.take i) + (d.file (ks.getD i [])).b.length) := Lib.hid (usum_succ d ks i (by have := HK.out; omega))
        have HKL : Hid ((ks.getD i []).length ≤ 1000) := Lib.hid (by
          rw [List.getD_eq_getElem?_getD, List.getElem?_eq_getElem (by have := HK.out; omega)]
          exact HKS.out _ (List.getElem_mem _))
        have hf := HLF.out (ks.getD i []); have hs := HLE.out i
        have HTH := there_at (HD.out.below HB.out) (ks.getD i []) (by have := HKL.out; omega)
        rw [read_b] at HTH
        have HTH := Lib.hid HTH
        generalize ks.getD i [] = k at *
        generalize usum d (ks.take i) = su at *
        obtain ⟨nk, hnk⟩ : ∃ nk, nk = (d.file k).b.length := ⟨_, rfl⟩
        rw [← hnk] at HTH HSU hf
        have hw : IntKind.i64.wrap ((su : Int) + nk) = (su : Int) + nk := wi64 _ (by omega) (by omega)
        obtain ⟨t0, t1, t2, t3, t4, t5⟩ := HST.out.cells HB.out
        clear hnk
        go_wp2_with fail
        refine HTH.out.mono ?_
        rintro e w7 ⟨A7, c7, rfl, _, _, _, hb7⟩
        have HB7 := Lib.hid (HB.out.trans (hb7.mono HB.out.size))
        clear hb7 HTH hcl t0 t1 t2 t3 t4 t5
        go_wp2_with fail
        go_roundw
        case rel => exact ⟨i + 1, by omega, by go_num, by rw [HSU.out]; rfl, HB7.out⟩
        case measure => simp [intOf]; omega
      · obtain rfl : i = 4 := by omega
        have HALL : Hid (usum d (ks.take 4) = usum d ks) := Lib.hid (by rw [List.take_of_length_le (by have := HK.out; omega)])
        go_wp2_with fail
        go_ret
        have HV : Ending.returned (.int .i64 ((usum d (ks.take 4) : Nat) : Int)) = .returned (.int .i64 ((usum d (unames base g) : Nat) : Int)) := by rw [HALL.out, HNM.out]
        exact ⟨HV, HBL.out.trans (HB.out.mono HBL.out.size)⟩
end Go.Proofs.YtegekaocbalndaaGreatDoor
end

section
set_option linter.unusedSimpArgs false
set_option linter.unusedVariables false
namespace Go.Proofs.YtegekaocbalndaaGreatDoor
open Go.RowKit

set_option maxRecDepth 100000 in
set_option maxHeartbeats 2000000 in
theorem sfits_at {w : World} {s q p m : Nat} {base : Nm} {res g : Int} {b : Bool} {d : Dk} {L : Lg} (h : Sto w s q p m base res g b d L) (hok : L.Ok) (n : Int) : Calls Tryz.prog 9 #[.pointer (some ⟨s, 0, none⟩), .int .i64 n] w fun e w' => e = .returned (.bool (lfits L n)) ∧ Below w.heap.size w w' := by
  obtain ⟨t0, t1, t2, t3, t4, t5⟩ := h.st.cells (Below.refl _ _)
  have HN := Lib.hid (snone_st h.st)
  have HF := Lib.hid (lfits_at h.log hok n)
  clear h
  go_enter Tryz.func9, Tryz.ntmps9
  go_wp2_with fail
  refine HN.out.mono ?_
  rintro e w' ⟨rfl, hw1⟩
  rw [hw1]
  clear hw1
  go_wp2_with fail
  with_reducible refine HF.out.mono ?_
  rintro e w2 ⟨rfl, hb2⟩
  have HB := Lib.hid hb2
  clear hb2
  go_wp2_with fail
  go_ret
  exact ⟨rfl, HB.out⟩
section
variable {w0 w w' : World} {s q p m : Nat} {base : Nm} {res g : Int} {b : Bool} {d d2 : Dk} {L : Lg}
theorem S22.step (h : S22 w0 w s q p m base res g b d L) (hd : DiskAt w' p m d2) (hw : Dw w w' p m) : S22 w0 w' s q p m base res g b d2 L :=
  ⟨⟨hd, (hw.block _ h.sto.log.lt (h.sto.log.ne h.sto.disk).1 (h.sto.log.ne h.sto.disk).2).trans h.sto.log, h.sto.st.keep h.sto.disk hw⟩, below_bw2 h.below hw.bw (by have := h.new; simp <;> omega), h.new⟩
end
theorem S22.compact {w0 w : World} {s q p m : Nat} {base : Nm} {R g : Nat} {d : Dk} {L L' : Lg} (h : S22 w0 w s q p m base R (g : Nat) false d L) (hR : R ≤ 67108864) (hb : base.length ≤ 500) (hw : d.writes < 1000000000) (hg : g ≤ 88) (snap : List UInt8) (n : Nat) (hn : n = snap.length) (hn2 : n ≤ 60000) (C : Option Addr) (capC : Nat) (hC : Bs w w.heap.size C snap) (hC0 : C = none → snap = []) (hsm : smallB n R = true)
    (h5 : (k1 d base g).2 = 0 → (k2 d base g snap).2 = 0 → (k3 d base g snap).2 = 0 → (k4 d base g snap).2 = 0 → (k5l d base R g snap).e = 0 ∧ (k5l d base R g snap).l = some L' ∧ ((k4 d base g snap).1.file (logN base (g + 1))).b.length ≤ 1000000 ∧ (k5l d base R g snap).d.writes < 10000000000) :
    Calls Tryz.prog 11 #[.pointer (some ⟨s, 0, none⟩), .slice C n capC] w fun e w' => ∃ z d' g' L'' q', e = .returned (.int .i64 (z : Nat)) ∧ CEnd (k1 d base g) (k2 d base g snap) (k3 d base g snap) (k4 d base g snap) (k5 d base R g snap) g L L' z d' g' L'' ∧ S22 w0 w' s q' p m base R (g' : Nat) (brkB z d d') d' L'' := by
  refine (compact_at h.sto hR hb hw hg snap n hn hn2 C capC hC hC0 hsm L' h5).mono ?_
  rintro e w' ⟨z, d', g', L'', q', rfl, hc, hs, hbw, hq⟩
  have hn := h.new; have hz := h.below.size
  exact ⟨z, d', g', L'', q', rfl, hc, hs, below_bw2 h.below hbw (by simp <;> omega), by rcases hq with rfl | hq <;> omega⟩
theorem cend_all {r1 r2 r3 r4 r5 : Dk × Nat} {g : Nat} {L L' : Lg} {z : Nat} {d' : Dk} {g' : Nat} {L'' : Lg} (h : CEnd r1 r2 r3 r4 r5 g L L' z d' g' L'') (h1 : r1.2 = 0) (h2 : r2.2 = 0) (h3 : r3.2 = 0) (h4 : r4.2 = 0) : z = r5.2 ∧ d' = r5.1 ∧ g' = g + 1 ∧ L'' = L' := by
  rcases h with ⟨c, _⟩ | ⟨_, c, _⟩ | ⟨_, _, c, _⟩ | ⟨_, _, _, c, _⟩ | ⟨_, _, _, _, c⟩
  · exact absurd h1 c
  · exact absurd h2 c
  · exact absurd h3 c
  · exact absurd h4 c
  · exact c
theorem cend_four {r1 r2 r3 r4 r5 : Dk × Nat} {g : Nat} {L L' : Lg} {z : Nat} {d' : Dk} {g' : Nat} {L'' : Lg} (h : CEnd r1 r2 r3 r4 r5 g L L' z d' g' L'') (h1 : r1.2 = 0) (h2 : r2.2 = 0) (h3 : r3.2 = 0) (h4 : r4.2 ≠ 0) : z = r4.2 ∧ d' = r4.1 ∧ g' = g ∧ L'' = L := by
  rcases h with ⟨c, _⟩ | ⟨_, c, _⟩ | ⟨_, _, c, _⟩ | ⟨_, _, _, _, c⟩ | ⟨_, _, _, c, _⟩
  · exact absurd h1 c
  · exact absurd h2 c
  · exact absurd h3 c
  · exact c
  · exact absurd c h4
set_option maxRecDepth 100000 in
set_option maxHeartbeats 2000000 in
theorem scommit_broken {w : World} {s p : Nat} {base : Nm} {res g : Int} {lv : Value} (h : StoreAt w s p base res g lv true) (C : Option Addr) (n capb : Nat) : Calls Tryz.prog 12 #[.pointer (some ⟨s, 0, none⟩), .slice C n capb] w fun e w' => e = .returned (.int .i64 14) ∧ w' = w := by
  have HM := Lib.hid (smay_st h)
  clear h
  go_enter Tryz.func12, Tryz.ntmps12
  go_wp2_with fail
  refine HM.out.mono ?_
  rintro e w1 ⟨rfl, hw1⟩
  rw [hw1]
  clear hw1
  go_wp2_with fail
  go_ret
  exact ⟨rfl, rfl⟩
set_option maxRecDepth 100000 in
set_option maxHeartbeats 2000000 in
theorem scompact_broken {w : World} {s p : Nat} {base : Nm} {res g : Int} {lv : Value} (h : StoreAt w s p base res g lv true) (C : Option Addr) (n capb : Nat) : Calls Tryz.prog 11 #[.pointer (some ⟨s, 0, none⟩), .slice C n capb] w fun e w' => e = .returned (.int .i64 14) ∧ Below w.heap.size w w' := by
  have HM := Lib.hid (fun W (hW : Below w.heap.size w W) => smay_st (h.below hW))
  clear h
  go_enter Tryz.func11, Tryz.ntmps11
  go_wp2_with fail
  obtain ⟨b0_, hb_⟩ := boxes1 w (.cells #[.pointer (some ⟨s, 0, none⟩)] 29)
  generalize w.alloc (.cells #[.pointer (some ⟨s, 0, none⟩)] 29) = w1 at *
  have T1b : Hid (∀ W, Below w1.heap.size w1 W → W.heap[w.heap.size]? = some (.cells #[.pointer (some ⟨s, 0, none⟩)] 29 (0, 0))) := Lib.hid (fun W hW => (hW.block _ (lt_blk b0_)).trans b0_)
  have T1 : Hid (∀ W, Below w1.heap.size w1 W → W.cell? ⟨w.heap.size, 0, none⟩ = some (.pointer (some ⟨s, 0, none⟩))) := Lib.hid (fun W hW => by have e := (hW.block _ (lt_blk b0_)).trans b0_; exact by rw [cell_blk e]; rfl)
  have HB1 := Lib.hid hb_
  clear hb_ b0_
  refine (HM.out w1 HB1.out).mono ?_
  rintro e w1' ⟨rfl, hw1⟩
  rw [hw1]
  clear hw1 HM
  go_wp2_with fail
  go_ret
  exact ⟨rfl, HB1.out⟩
set_option maxRecDepth 100000 in
set_option maxHeartbeats 2000000 in
theorem scompact_quota {w : World} {s p : Nat} {base : Nm} {R : Nat} {g : Int} {lv : Value} (h : StoreAt w s p base R g lv false) (hR : R ≤ 67108864) (C : Option Addr) (n capb : Nat) (hn : n ≤ 65536) (hsm : smallB n R = false) : Calls Tryz.prog 11 #[.pointer (some ⟨s, 0, none⟩), .slice C n capb] w fun e w' => e = .returned (.int .i64 12) ∧ Below w.heap.size w w' := by
  have HM := Lib.hid (fun W (hW : Below w.heap.size w W) => smay_st (h.below hW))
  have T := Lib.hid (fun W (hW : Below w.heap.size w W) => h.cells hW)
  have HSM := Lib.hid hsm
  clear h hsm
  go_enter Tryz.func11, Tryz.ntmps11
  go_wp2_with fail
  obtain ⟨b0_, hb_⟩ := boxes1 w (.cells #[.pointer (some ⟨s, 0, none⟩)] 29)
  generalize w.alloc (.cells #[.pointer (some ⟨s, 0, none⟩)] 29) = w1 at *
  have T1b : Hid (∀ W, Below w1.heap.size w1 W → W.heap[w.heap.size]? = some (.cells #[.pointer (some ⟨s, 0, none⟩)] 29 (0, 0))) := Lib.hid (fun W hW => (hW.block _ (lt_blk b0_)).trans b0_)
  have T1 : Hid (∀ W, Below w1.heap.size w1 W → W.cell? ⟨w.heap.size, 0, none⟩ = some (.pointer (some ⟨s, 0, none⟩))) := Lib.hid (fun W hW => by have e := (hW.block _ (lt_blk b0_)).trans b0_; exact by rw [cell_blk e]; rfl)
  have HB1 := Lib.hid hb_
  clear hb_ b0_
  refine (HM.out w1 HB1.out).mono ?_
  rintro e w1' ⟨rfl, hw1⟩
  rw [hw1]
  clear hw1 HM
  obtain ⟨x0, x1, x2, x3, x4, x5⟩ := T.out w1 HB1.out
  have y0 := T1.out w1 (Below.refl _ _)
  go_wp2_with fail
  with_reducible refine (ssmall_at n (by omega) R hR w1).mono ?_
  rintro e w2 ⟨rfl, hb2⟩
  rw [HSM.out]
  have HB2 := Lib.hid (HB1.out.trans (hb2.mono HB1.out.size))
  clear hb2
  go_wp2_with fail
  go_ret
  exact ⟨rfl, HB2.out⟩
end Go.Proofs.YtegekaocbalndaaGreatDoor
end
