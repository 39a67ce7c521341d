/- race.Pending. -/
import Derived.Test.YtkcpoebepiipoaaGd
import Derived.Test.YtkcpoebepiipoaaEg
set_option linter.unusedSimpArgs false
set_option linter.unusedVariables false
namespace Go.Proofs.Ytkcpoebepiipoaa
open Go.RowKit

/-- 'append(nil, x...)' in the front of a drawn region. -/
theorem relOp_append_nilS {P : Program} {t e : TypeId} {z : Value} {sz bytes : Nat} (E : ElS P t e z sz bytes) {ops : Array Oper} {o : Oper} {a : Act} {w0 W : World} (hW : Below w0.heap.size w0 W) (hgd : o.guard = none) (s x : Operand)
    (ho : o.op = .call { callee := .builtin .append, args := #[s, x], argTypes := #[t, t] }) (hs : a.eval s = .slice none 0 0) (B : Nat) (A : Option Addr) (news : List Value) (m c : Nat) (hx : a.eval x = .slice A m c) (hm : news.length = m * sz) (hr : Rd W B A news)
    (hA : A = none → m = 0) (h1 : ∀ u ∈ news, u.oneCell' = true) (h63 : m ≤ 1000000000000) (hbytes : bytes ≤ 100) : relOpS P w0.heap.size ops o a (.inr (OwnRS w0.heap.size e sz m news)) W := by
  obtain ⟨v', w', hrun, h2, h3, h4⟩ := run_append_srcS E W w0.heap.size o.type (.slice none 0 0) 0 [] (World.ownsRow_nil _ _ _ _) B A news m c hm hr hA h1 (by omega) hbytes hW.size
  unfold relOpS
  rw [if_pos (by simp [Region.wanted, hgd])]
  unfold execOp
  simp only [ho, resolve, invoke, builtin, Sem.run_bind, Sem.run_pure, Result.andThen_ok, List.map_toArray, List.map_cons, List.map_nil, hs, hx, hrun, relUponS]
  refine ⟨StayS.of ⟨h3.os, h3.tape, h3.output, h3.size, fun k hk => h3.block k hk (by intro e; cases e)⟩ hW.size, ?_⟩
  show w'.ownsRow w0.heap.size e sz v' m news
  simpa using h2
def numv (xs : List Nat) : List Value := xs.map fun (n : Nat) => Value.int .i64 (n : Int)
def pend (l : List Ev) (mm k : Nat) : List Nat := (List.range k).filter fun i => unl2 l i mm && raceB l i mm
theorem pend_succ (l : List Ev) (mm k : Nat) : pend l mm (k + 1) = if unl2 l k mm && raceB l k mm then pend l mm k ++ [k] else pend l mm k := by
  unfold pend
  rw [List.range_succ, List.filter_append]
  by_cases h : (unl2 l k mm && raceB l k mm) = true <;> simp [h]
theorem pend_le (l : List Ev) (mm k : Nat) : (pend l mm k).length ≤ k := by unfold pend; exact Nat.le_trans (List.length_filter_le _ _) (by simp)
def pendL (l : List Ev) (n : Int) (e : Ev) : List Nat := if wrongE (l ++ [e]) n = 0 then pend (l ++ [e]) l.length l.length else []
def NumsP (w : World) (er : Nat) (xs : List Nat) (r : Ending) (w' : World) : Prop :=
  Below w.heap.size w w' ∧ ∃ v, r = .returned (.tuple #[v, .int .i64 er]) ∧ w'.ownsRow w.heap.size 3 1 v xs.length (numv xs)
theorem ev_app_lt (l : List Ev) (e : Ev) (i : Nat) (h : i < l.length) : ev (l ++ [e]) i = ev l i := by
  simp [ev, List.getD_eq_getElem?_getD, List.getElem?_append_left h]
theorem ev_app_end (l : List Ev) (e : Ev) : ev (l ++ [e]) l.length = e := by simp [ev, List.getD_eq_getElem?_getD]
set_option maxRecDepth 100000 in
set_option maxHeartbeats 4000000 in
theorem pending_any (l : List Ev) (m : Nat) (hm : m = l.length) (hl : m ≤ 2000) (n : Int) (e : Ev) (A : Option Addr) (cap : Nat) (B : Nat) (w : World) (hA : Evs w B A l) (hB : B ≤ w.heap.size) (hA0 : A = none → m = 0) :
    Calls Try.prog 12 #[.slice A m cap, .int .i64 n, e.v] w (NumsP w (wrongE (l ++ [e]) n) (pendL l n e)) := by
  have HA := Lib.hid (hA.more hB); have HA0 := Lib.hid hA0; have HM := Lib.hid hm
  clear hA hA0 hm
  obtain ⟨et, ek, eo⟩ := e
  have He : Hid (Ev.v ⟨et, ek, eo⟩ = .agg #[.int .i64 et, .int .i64 ek, .int .i64 eo]) := Lib.hid rfl
  rw [He.out]
  have HER : Hid (wrongE (l ++ [(⟨et, ek, eo⟩ : Ev)]) n = wrongE (l ++ [(⟨et, ek, eo⟩ : Ev)]) n) := Lib.hid rfl
  have HPL : Hid (pendL l n ⟨et, ek, eo⟩ = pendL l n ⟨et, ek, eo⟩) := Lib.hid rfl
  obtain ⟨er, her⟩ : ∃ er, er = wrongE (l ++ [(⟨et, ek, eo⟩ : Ev)]) n := ⟨_, rfl⟩
  obtain ⟨pl, hpl⟩ : ∃ pl, pl = pendL l n ⟨et, ek, eo⟩ := ⟨_, rfl⟩
  rw [← her, ← hpl]
  have Her := Lib.hid her; have Hpl := Lib.hid hpl
  clear her hpl HER HPL
  go_enter Try.func12, Try.ntmps12
  go_upto_region 1 with (fail)
  have hb1 := below_alloc w (.cells #[.int .i64 et, .int .i64 ek, .int .i64 eo] 24)
  have hx1 := heap_alloc_new w (.cells #[.int .i64 et, .int .i64 ek, .int .i64 eo] 24)
  generalize w.alloc (.cells #[.int .i64 et, .int .i64 ek, .int .i64 eo] 24) = w1 at *
  have HB1 := Lib.hid hb1; have HX1 := Lib.hid hx1
  clear hb1 hx1
  have T : Hid (∀ W, Below w1.heap.size w1 W → W.cell? ⟨w.heap.size, 0, none⟩ = some (.int .i64 et) ∧ W.cell? ⟨w.heap.size, 1, none⟩ = some (.int .i64 ek) ∧ W.cell? ⟨w.heap.size, 2, none⟩ = some (.int .i64 eo)) := Lib.hid (fun W hW => by
    have hx := (hW.block _ (lt_blk HX1.out)).trans HX1.out
    exact ⟨by rw [cell_blk hx]; rfl, by rw [cell_blk hx]; rfl, by rw [cell_blk hx]; rfl⟩)
  apply wp_region_relH (H := []) 4 [(Sum.inl _ : TT), .inr (OwnRS w1.heap.size 24 3 m (evcells l)), (Sum.inl _ : TT), .inr (NewR w1.heap.size 24 #[.int .i64 et, .int .i64 ek, .int .i64 eo] 1)] (by kernel_rfl) (by kernel_rfl) (fun _ _ _ _ _ h => h) rfl
  simp only [List.take_succ_cons, List.take_zero, List.drop_succ_cons, List.drop_zero]
  iterate 1 (apply rel_isS; (intro W hW hf; go_simp; first | exact ⟨StayS.refl _ _, rfl⟩ | rfl); simp only [Act.put, List.setIfInBounds_toArray, List.set_cons_succ, List.set_cons_zero])
  refine rel_fitsS (fun W hW hf => relOp_append_nilS ES3 hW rfl (.const (.slice none 0 0)) (.tmp 13) rfl rfl w.heap.size A (evcells l) m cap rfl (by rw [evcells_length, HM.out]) ((HA.out.below (HB1.out.trans (hW.mono HB1.out.size))).rd) HA0.out (evcells_one l) (by omega) (by omega)) (OwnRS.keepsS _ _ _ _ _) fun v1 => ?_
  simp only [Act.put, List.setIfInBounds_toArray, List.set_cons_succ, List.set_cons_zero]
  iterate 1 (apply rel_isS; (intro W hW hf; obtain ⟨hx1, hx2, hx3⟩ := T.out W hW; go_simp; first | exact ⟨StayS.refl _ _, rfl⟩ | rfl); simp only [Act.put, List.setIfInBounds_toArray, List.set_cons_succ, List.set_cons_zero])
  refine rel_fitsS (fun W hW hf => ?_) (NewR.keepsS _ _ _ _) fun v2 => ?_
  · go_simp
    exact newR_alloc hW (Nat.le_refl _)
  refine rel_endS ?_
  intro W hW hf
  try simp only [Act.put, List.setIfInBounds_toArray, List.set_cons_succ, List.set_cons_zero]
  have h1 := hf (14, OwnRS w1.heap.size 24 3 m (evcells l) v1) (by simp)
  have h2 := hf (16, NewR w1.heap.size 24 #[.int .i64 et, .int .i64 ek, .int .i64 eo] 1 v2) (by simp)
  obtain ⟨g2, rfl, hg2, hx2⟩ := h2
  have H1 := Lib.hid h1; have Hx2 := Lib.hid hx2; have HbW := Lib.hid hW
  clear h1 hf hx2 hW
  go_wp2_with (at_builtin; refine wpList_append_srcS ES3 rfl (.tmp 14) (.tmp 16) rfl w1.heap.size v1 m (evcells l) rfl H1.out (g2 + 1) (some ⟨g2, 0, none⟩) [.int .i64 et, .int .i64 ek, .int .i64 eo] 1 1 rfl rfl (fun j u hu => ⟨g2, 0, rfl, by omega, by rw [cell_blk Hx2.out]; simpa using hu⟩) (fun h => by cases h) (by intro u hu; simp at hu; rcases hu with rfl | rfl | rfl <;> rfl) (by omega) (by omega) w1 (Nat.le_refl _) HbW.out ?_; intro v3 w3 h2 h3 h4 h5; clear h4 h5; have H3 := Lib.hid h2; have Hb3 := Lib.hid h3; clear h2 h3; obtain ⟨A3, c3, rfl, hr3, hn3, hc3⟩ := own_rdS H3.out; have HC3 := Lib.hid hc3; have HA3 := Lib.hid (Evs.of_rd (l := l ++ [⟨et, ek, eo⟩]) (by rw [evcells_app]; exact hr3)); clear hr3 hn3 hc3)
  have HBw3 : Hid (Below w.heap.size w w3) := Lib.hid (HB1.out.trans (Hb3.out.mono HB1.out.size))
  have HX3 := Lib.hid ((Hb3.out.block _ (lt_blk HX1.out)).trans HX1.out)
  have HL' : Hid (m + 1 = (l ++ [(⟨et, ek, eo⟩ : Ev)]).length) := Lib.hid (by rw [HM.out]; simp)
  have HEi : Hid (∀ i, i < m → ev (l ++ [(⟨et, ek, eo⟩ : Ev)]) i = ev l i) := Lib.hid (fun i hi => ev_app_lt _ _ _ (by rw [← HM.out]; exact hi))
  have HEm : Hid (ev (l ++ [(⟨et, ek, eo⟩ : Ev)]) m = ⟨et, ek, eo⟩) := Lib.hid (by rw [HM.out]; exact ev_app_end _ _)
  by_cases hw : wrongE (l ++ [(⟨et, ek, eo⟩ : Ev)]) n = 0
  · obtain ⟨x1, x2, x3, x4⟩ := wrong_ok hw
    obtain ⟨nn, rfl⟩ := Int.eq_ofNat_of_zero_le (show 0 ≤ n by omega)
    have HE : Hid (pl = pend (l ++ [(⟨et, ek, eo⟩ : Ev)]) m m) := Lib.hid (by rw [Hpl.out]; unfold pendL; rw [if_pos hw, HM.out])
    have HE0 : Hid (er = 0) := Lib.hid (by rw [Her.out]; exact hw)
    have HG := Lib.hid (fun i (hi : i < m + 1) => good_at x4 (show i < (l ++ [(⟨et, ek, eo⟩ : Ev)]).length by rw [← HL'.out]; exact hi))
    have HCl := Lib.hid (clocks_at (l ++ [(⟨et, ek, eo⟩ : Ev)]) (m + 1) HL'.out (by omega) nn hw A3 c3 HC3.out w3.heap.size w3 HA3.out (Nat.le_refl _))
    clear hw x4 Her Hpl
    generalize hl' : l ++ [(⟨et, ek, eo⟩ : Ev)] = l' at *
    with_reducible refine HCl.out.mono ?_
    rintro r w4 ⟨Ac, cc, rfl, hc, hb⟩
    have HCK := Lib.hid hc
    have HB4 := Lib.hid (HBw3.out.trans (hb.mono HBw3.out.size))
    have HA4 := Lib.hid ((HA3.out.below hb).more hb.size)
    have HX4 := Lib.hid ((hb.block _ (lt_blk HX3.out)).trans HX3.out)
    clear hc hb
    go_wp2_with fail
    go_loopw [11, 29] (fun ov iv wr => ∃ i : Nat, i ≤ m ∧ iv = .int .i64 i ∧ wr.ownsRow w4.heap.size 3 1 ov (pend l' m i).length (numv (pend l' m i)) ∧ Below w4.heap.size w4 wr) (fun _ iv _ => m - (intOf iv).toNat)
    case atStart => exact ⟨0, by omega, rfl, World.ownsRow_nil _ _ _ _, Below.refl _ _⟩
    case round =>
      obtain ⟨i, hi, rfl, ho, hb⟩ := hrel
      have HO := Lib.hid ho; have HB := Lib.hid hb
      clear ho hb
      by_cases hlt : i < m
      · obtain ⟨b, off, rfl, hbl, k1, k2, k3⟩ := HA.out i (by rw [← HM.out]; exact hlt)
        have TC : Hid (∀ W, Below wr.heap.size wr W → W.cell? ⟨b, off + i * 3, none⟩ = some (.int .i64 (ev l i).t) ∧ W.cell? ⟨w.heap.size, 0, none⟩ = some (.int .i64 et)) := Lib.hid fun W h => by
          have h4 := HB.out.trans (h.mono HB.out.size)
          have hx := (h4.block _ (lt_blk HX4.out)).trans HX4.out
          exact ⟨((HB4.out.trans (h4.mono HB4.out.size)).cell (p := ⟨b, off + i * 3, none⟩) hbl).trans k1, by rw [cell_blk hx]; rfl⟩
        clear k1 k2 k3
        have HR := Lib.hid (fun W (h : Below wr.heap.size wr W) => race_any l' (m + 1) HL'.out (by omega) nn (by omega) HG.out i m hlt (by omega) A3 Ac c3 cc w4.heap.size w4.heap.size W (HA4.out.below (HB.out.trans (h.mono HB.out.size))) (Nat.le_trans HB.out.size h.size) (HCK.out.below (HB.out.trans (h.mono HB.out.size))) (Nat.le_trans HB.out.size h.size))
        have HS := Lib.hid (pend_succ l' m i)
        have HU : Hid (unl2 l' i m = !decide ((ev l i).t = et)) := Lib.hid (by unfold unl2; rw [HEi.out i hlt, HEm.out]; simp)
        have hzl : (pend l' m i).length ≤ i := pend_le _ _ _
        generalize raceB l' i m = rr at *
        generalize unl2 l' i m = uu at *
        generalize (ev l i).t = ti at *
        by_cases he : ti = et
        · subst he
          have HS1 : Hid (pend l' m (i + 1) = pend l' m i) := Lib.hid (by rw [HS.out, HU.out]; simp)
          clear HS HU
          go_upto_region 9 with (fail)
          apply wp_region_relH (H := []) 17 [(Sum.inl _ : TT), (Sum.inl _ : TT), (Sum.inl _ : TT), (Sum.inl _ : TT), (Sum.inl _ : TT), (Sum.inl _ : TT), (Sum.inl _ : TT), (Sum.inl _ : TT), (Sum.inl _ : TT), (Sum.inl _ : TT), (Sum.inl _ : TT), (Sum.inl _ : TT), (Sum.inl _ : TT), (Sum.inl _ : TT), (Sum.inl _ : TT), (Sum.inl _ : TT), (Sum.inl _ : TT)] (by kernel_rfl) (by kernel_rfl) (fun _ _ _ _ _ h => h) rfl
          simp only [List.take_succ_cons, List.take_zero, List.drop_succ_cons, List.drop_zero]
          iterate 17 (apply rel_isS; (intro W hW hf; obtain ⟨z1, z2⟩ := TC.out W hW; go_simp; first | exact ⟨StayS.refl _ _, rfl⟩ | rfl); simp only [Act.put, List.setIfInBounds_toArray, List.set_cons_succ, List.set_cons_zero])
          refine rel_endS ?_
          intro W hW hf
          try simp only [Act.put, List.setIfInBounds_toArray, List.set_cons_succ, List.set_cons_zero]
          have HB5 := Lib.hid (HB.out.trans (hW.mono HB.out.size))
          have HO5 := Lib.hid (own_below HO.out hW)
          clear hW hf
          go_wp2_with fail
          go_roundw
          case rel => exact ⟨i + 1, by omega, by go_num, by rw [HS1.out]; exact HO5.out, HB5.out⟩
          case measure => simp [intOf]; omega
        · have h1 : decide (ti = et) = false := decide_eq_false he
          have h2 : (ti == et) = false := by rw [beq_eq_false_iff_ne]; exact he
          have HS1 : Hid (pend l' m (i + 1) = if rr then pend l' m i ++ [i] else pend l' m i) := Lib.hid (by rw [HS.out, HU.out, h1]; simp)
          clear HS HU
          cases rr
          · go_upto_region 9 with (fail)
            apply wp_region_relH (H := []) 17 [(Sum.inl _ : TT), (Sum.inl _ : TT), (Sum.inl _ : TT), (Sum.inl _ : TT), (Sum.inl _ : TT), (Sum.inl _ : TT), (Sum.inl _ : TT), (Sum.inl _ : TT), (Sum.inl _ : TT), (Sum.inl _ : TT), (Sum.inl _ : TT), (Sum.inl _ : TT), (Sum.inl _ : TT), (Sum.inl _ : TT), (Sum.inl _ : TT), (Sum.inl _ : TT), (Sum.inl _ : TT)] (by kernel_rfl) (by kernel_rfl) (fun _ _ _ _ _ h => h) rfl
            simp only [List.take_succ_cons, List.take_zero, List.drop_succ_cons, List.drop_zero]
            iterate 15 (apply rel_isS; (intro W hW hf; obtain ⟨z1, z2⟩ := TC.out W hW; go_simp; first | exact ⟨StayS.refl _ _, rfl⟩ | rfl); simp only [Act.put, List.setIfInBounds_toArray, List.set_cons_succ, List.set_cons_zero])
            apply rel_isS
            · intro W hW hf
              exact rel_callS hW (by first | rfl | (go_simp; done) | (go_simp; simp)) (by go_simp <;> first | rfl | exact ⟨rfl, rfl⟩ | exact ⟨rfl, rfl, rfl⟩) ((HR.out W hW).mono fun e w'' h => ⟨_, h.1, h.2, rfl⟩)
            simp only [Act.put, List.setIfInBounds_toArray, List.set_cons_succ, List.set_cons_zero]
            iterate 1 (apply rel_isS; (intro W hW hf; go_simp; first | exact ⟨StayS.refl _ _, rfl⟩ | rfl); simp only [Act.put, List.setIfInBounds_toArray, List.set_cons_succ, List.set_cons_zero])
            refine rel_endS ?_
            intro W hW hf
            try simp only [Act.put, List.setIfInBounds_toArray, List.set_cons_succ, List.set_cons_zero]
            have HB5 := Lib.hid (HB.out.trans (hW.mono HB.out.size))
            have HO5 := Lib.hid (own_below HO.out hW)
            clear hW hf
            go_wp2_with fail
            go_roundw
            case rel => exact ⟨i + 1, by omega, by go_num, by rw [HS1.out]; exact HO5.out, HB5.out⟩
            case measure => simp [intOf]; omega
          · go_upto_region 9 with (fail)
            apply wp_region_relH (H := []) 17 [(Sum.inl _ : TT), (Sum.inl _ : TT), (Sum.inl _ : TT), (Sum.inl _ : TT), (Sum.inl _ : TT), (Sum.inl _ : TT), (Sum.inl _ : TT), (Sum.inl _ : TT), (Sum.inl _ : TT), (Sum.inl _ : TT), (Sum.inl _ : TT), (Sum.inl _ : TT), (Sum.inl _ : TT), (Sum.inl _ : TT), (Sum.inl _ : TT), (Sum.inl _ : TT), (Sum.inl _ : TT)] (by kernel_rfl) (by kernel_rfl) (fun _ _ _ _ _ h => h) rfl
            simp only [List.take_succ_cons, List.take_zero, List.drop_succ_cons, List.drop_zero]
            iterate 15 (apply rel_isS; (intro W hW hf; obtain ⟨z1, z2⟩ := TC.out W hW; go_simp; first | exact ⟨StayS.refl _ _, rfl⟩ | rfl); simp only [Act.put, List.setIfInBounds_toArray, List.set_cons_succ, List.set_cons_zero])
            apply rel_isS
            · intro W hW hf
              exact rel_callS hW (by first | rfl | (go_simp; done) | (go_simp; simp)) (by go_simp <;> first | rfl | exact ⟨rfl, rfl⟩ | exact ⟨rfl, rfl, rfl⟩) ((HR.out W hW).mono fun e w'' h => ⟨_, h.1, h.2, rfl⟩)
            simp only [Act.put, List.setIfInBounds_toArray, List.set_cons_succ, List.set_cons_zero]
            iterate 1 (apply rel_isS; (intro W hW hf; go_simp; first | exact ⟨StayS.refl _ _, rfl⟩ | rfl); simp only [Act.put, List.setIfInBounds_toArray, List.set_cons_succ, List.set_cons_zero])
            refine rel_endS ?_
            intro W hW hf
            try simp only [Act.put, List.setIfInBounds_toArray, List.set_cons_succ, List.set_cons_zero]
            have HB5 := Lib.hid (HB.out.trans (hW.mono HB.out.size))
            have HO5 := Lib.hid (own_below HO.out hW)
            clear hW hf
            refine wpList_nil ?_
            generalize hz : (pend l' m i).length = z at *
            go_wp2_with (at_builtin; refine wpList_append_one0 EI rfl (.tmp 49) (.tmp 51) rfl w4.heap.size (.int .i64 i) rfl _ z (numv (pend l' m i)) rfl HO5.out rfl (by omega) (by omega) w4 (Nat.le_refl _) HB5.out ?_; intro v5 w5 h2 h3 h4 h5; clear h4 h5; have O6 := Lib.hid h2; have HB6 := Lib.hid h3; clear h2 h3)
            go_roundw
            case rel => exact ⟨i + 1, by omega, by go_num, by rw [HS1.out, if_pos rfl, List.length_append, hz]; simpa [numv] using O6.out, HB6.out⟩
            case measure => simp [intOf]; omega
      · obtain rfl : i = m := by omega
        go_wp2_with fail
        go_ret2
        exact ⟨HB4.out.trans (HB.out.mono HB4.out.size), _, by rw [HE0.out]; rfl, by rw [HE.out]; exact owns_less HO.out HB4.out.size⟩
  · have HCl := Lib.hid (clocks_bad (l ++ [(⟨et, ek, eo⟩ : Ev)]) (m + 1) HL'.out (by omega) n hw A3 c3 HC3.out w3.heap.size w3 HA3.out (Nat.le_refl _))
    have HE : Hid (pl = []) := Lib.hid (by rw [Hpl.out]; unfold pendL; rw [if_neg hw])
    rw [← Her.out] at HCl hw
    have hx : ((er : Nat) : Int) = 0 → False := by omega
    have hx2 : decide (((er : Nat) : Int) = 0) = false := by rw [decide_eq_false_iff_not]; exact hx
    have hx3 : (((er : Nat) : Int) == 0) = false := by rw [beq_eq_false_iff_ne]; exact hx
    clear hw Her Hpl
    with_reducible refine HCl.out.mono ?_
    rintro r w4 ⟨rfl, hb⟩
    have HB4 := Lib.hid (HBw3.out.trans (hb.mono HBw3.out.size))
    clear hb
    go_wp2_with fail
    go_ret2
    exact ⟨HB4.out, _, rfl, by rw [HE.out]; exact World.ownsRow_nil _ _ _ _⟩
end Go.Proofs.Ytkcpoebepiipoaa
