/- code.stack. -/
import Derived.Test.YtbmpjphemjponaaWd
import Derived.Test.YtbmpjphemjponaaWe
import Derived.Test.YtbmpjphemjponaaAs
set_option linter.unusedSimpArgs false
set_option linter.unusedVariables false
namespace Go.Proofs.Ytbmpjphemjponaa
open Go.RowKit


theorem ETy : El Try.prog 106 48 (.int .u8 0) 1 := ⟨Try.underlying106, by kernel_rfl, rfl⟩
def tyc (s : List Int) : List Value := s.map (Value.int .u8)
def TyOwn (w : World) (base : Nat) (v : Value) (s : List Int) : Prop := w.ownsRow base 48 1 v s.length (tyc s)
theorem TyOwn.shape {w : World} {base : Nat} {v : Value} {s : List Int} (h : TyOwn w base v s) (h0 : 0 < s.length) : ∃ g cap, v = .slice (some ⟨g, 0, none⟩) s.length cap ∧ s.length ≤ cap ∧ ∀ W, Below w.heap.size w W → ∀ j, j < s.length → W.cell? ⟨g, j, none⟩ = some (.int .u8 (s.getD j 0)) := by
  rcases h.2 with ⟨_, e⟩ | ⟨g, cap, cur, rfl, _, hg, hnc, _, hsz, htk⟩
  · omega
  · refine ⟨g, cap, rfl, hnc, fun W hW j hj => ?_⟩
    rw [cell_blk ((hW.block g (lt_blk hg)).trans hg), ← Array.getElem?_toList]
    have h1 : (cur.toList.take (s.length * 1))[j]? = cur.toList[j]? := by rw [List.getElem?_take, if_pos (by omega)]
    rw [← h1, htk, tyc, List.getElem?_map, List.getD_eq_getElem?_getD, List.getElem?_eq_getElem hj]
    rfl
theorem TyOwn.low {w : World} {L L' : Nat} {v : Value} {s : List Int} (h : TyOwn w L v s) (hl : L' ≤ L) : TyOwn w L' v s := by
  refine ⟨h.1, h.2.imp id ?_⟩
  rintro ⟨g, cap, cur, h1, h2, h3⟩
  exact ⟨g, cap, cur, h1, Nat.le_trans hl h2, h3⟩
theorem own_take {w : World} {base : Nat} {e : TypeId} {a : Addr} {n cap k : Nat} {xs : List Value} (h : w.ownsRow base e 1 (.slice (some a) n cap) n xs) (hk : k ≤ n) : w.ownsRow base e 1 (.slice (some a) k cap) k (xs.take k) := by
  refine ⟨by simp [h.1]; omega, ?_⟩
  rcases h.2 with ⟨e, _⟩ | ⟨g, cap', cur, e, hb, hg, hnc, hm, hsz, htk⟩
  · cases e
  · cases e
    refine .inr ⟨g, cap, cur, rfl, hb, hg, by omega, hm, hsz, ?_⟩
    rw [← htk, List.take_take, show min k (n * 1) = k * 1 by omega]
/-- what code.stack answers. -/
def StkP (base : Nat) (r : Option (List Int × Nat)) (e : Ending) (w' : World) : Prop := match r with
  | none => e = .returned (.tuple #[.slice none 0 0, .int .i64 0, .bool false])
  | some (s, h) => s.length ≤ 4000000 ∧ ∃ v, e = .returned (.tuple #[v, .int .i64 h, .bool true]) ∧ TyOwn w' base v s
theorem stkL_cons (sh lo : List Vl) (i : Ins) (r : List Ins) (s : List Int) (h : Nat) : stkL sh lo (i :: r) s h = match stk1 sh lo i s with
    | none => none
    | some s' => stkL sh lo r s' (max h s'.length) := rfl
theorem drop_at {α : Type} [Inhabited α] (l : List α) (k : Nat) (h : k < l.length) : l.drop k = l.getD k default :: l.drop (k + 1) := by
  rw [List.drop_eq_getElem_cons h]; simp [List.getD_eq_getElem?_getD, List.getElem?_eq_getElem h]
theorem inOk_load {ns nl : Int} {i : Ins} (h : inOk ns nl i = true) (e : i.op = 30) : ∃ j : Nat, i.arg = j ∧ (j : Int) < nl := by
  unfold inOk wi at h
  rw [if_neg (by omega), if_pos e] at h
  simp only [Bool.and_eq_true, decide_eq_true_eq] at h
  exact ⟨i.arg.toNat, by omega, by omega⟩
theorem inOk_fetch {ns nl : Int} {i : Ins} (h : inOk ns nl i = true) (e : i.op = 31) : ∃ j : Nat, i.arg = j ∧ (j : Int) < ns := by
  unfold inOk wi at h
  rw [if_neg (by omega), if_neg (by omega), if_pos e] at h
  simp only [Bool.and_eq_true, decide_eq_true_eq] at h
  exact ⟨i.arg.toNat, by omega, by omega⟩
set_option maxRecDepth 100000 in
set_option maxHeartbeats 4000000 in
theorem stack_any (sh lo : List Vl) (nb nn : Nat) (mt st : Int) (p q p2 q2 p3 : Slc) (n : Nd) (h1 : sh.length ≤ 4000000) (h2 : lo.length ≤ 4000000) (h3 : n.code.length ≤ 4000000) (hin : n.code.all (inOk sh.length lo.length) = true) (B : Nat) (w : World)
    (hs : VlsAt w B p sh) (hl : VlsAt w B p2 lo) (hc : InsAt w B p3 n.code) (hB : B ≤ w.heap.size) :
    Calls Try.prog 80 #[cav p q sh.length nb mt, cav p2 q2 lo.length nn st, ndv n p3] w fun e w' => StkP w.heap.size (stkL sh lo n.code [] 0) e w' ∧ Below w.heap.size w w' := by
  have HI : Hid (∀ k, k < n.code.length → inOk sh.length lo.length (n.code.getD k default) = true) := Lib.hid (fun k hk => all_at hin hk)
  have HR : Hid (stkL sh lo n.code [] 0 = stkL sh lo (n.code.drop 0) [] 0) := Lib.hid rfl
  have HS := Lib.hid hs; have HL := Lib.hid hl; have HC := Lib.hid hc
  unfold cav ndv
  clear hin hs hl hc
  generalize stkL sh lo n.code [] 0 = res at *
  obtain ⟨cd, kind, arg, next, alt⟩ := n
  obtain ⟨A, cp⟩ := p; obtain ⟨A', cp'⟩ := q; obtain ⟨A2, cp2⟩ := p2; obtain ⟨A2', cp2'⟩ := q2; obtain ⟨A3, cp3⟩ := p3
  dsimp only at *
  generalize hm1 : sh.length = ns at *
  generalize hm2 : lo.length = nl at *
  generalize hm3 : cd.length = nc at *
  have M1 := Lib.hid hm1; have M2 := Lib.hid hm2; have M3 := Lib.hid hm3
  clear hm1 hm2 hm3
  go_enter Try.func80, Try.ntmps80
  go_upto_region 1 with (fail)
  obtain ⟨b0_, b1_, b2_, hb_⟩ := boxes3 w (.cells #[.slice A ns cp, .int .i64 mt, .slice A' nb cp'] 25) (.cells #[.slice A2 nl cp2, .int .i64 st, .slice A2' nn cp2'] 57) (.cells #[.slice A3 nc cp3, .int .i64 kind, .int .i64 arg, .int .i64 next, .int .i64 alt] 60)
  generalize ((w.alloc (.cells #[.slice A ns cp, .int .i64 mt, .slice A' nb cp'] 25)).alloc (.cells #[.slice A2 nl cp2, .int .i64 st, .slice A2' nn cp2'] 57)).alloc (.cells #[.slice A3 nc cp3, .int .i64 kind, .int .i64 arg, .int .i64 next, .int .i64 alt] 60) = w0 at *
  have T0 : Hid (∀ W, Below w0.heap.size w0 W → W.cell? ⟨w.heap.size, 0, none⟩ = some (.slice A ns cp) ∧ W.cell? ⟨w.heap.size, 1, none⟩ = some (.int .i64 mt) ∧ W.cell? ⟨w.heap.size, 2, none⟩ = some (.slice A' nb cp')) := Lib.hid (fun W hW => by have e := (hW.block _ (lt_blk b0_)).trans b0_; exact ⟨by rw [cell_blk e]; rfl, by rw [cell_blk e]; rfl, by rw [cell_blk e]; rfl⟩)
  have T1 : Hid (∀ W, Below w0.heap.size w0 W → W.cell? ⟨w.heap.size + 1, 0, none⟩ = some (.slice A2 nl cp2) ∧ W.cell? ⟨w.heap.size + 1, 1, none⟩ = some (.int .i64 st) ∧ W.cell? ⟨w.heap.size + 1, 2, none⟩ = some (.slice A2' nn cp2')) := Lib.hid (fun W hW => by have e := (hW.block _ (lt_blk b1_)).trans b1_; exact ⟨by rw [cell_blk e]; rfl, by rw [cell_blk e]; rfl, by rw [cell_blk e]; rfl⟩)
  have T2 : Hid (∀ W, Below w0.heap.size w0 W → W.cell? ⟨w.heap.size + 1 + 1, 0, none⟩ = some (.slice A3 nc cp3) ∧ W.cell? ⟨w.heap.size + 1 + 1, 1, none⟩ = some (.int .i64 kind) ∧ W.cell? ⟨w.heap.size + 1 + 1, 2, none⟩ = some (.int .i64 arg) ∧ W.cell? ⟨w.heap.size + 1 + 1, 3, none⟩ = some (.int .i64 next) ∧ W.cell? ⟨w.heap.size + 1 + 1, 4, none⟩ = some (.int .i64 alt)) := Lib.hid (fun W hW => by have e := (hW.block _ (lt_blk b2_)).trans b2_; exact ⟨by rw [cell_blk e]; rfl, by rw [cell_blk e]; rfl, by rw [cell_blk e]; rfl, by rw [cell_blk e]; rfl, by rw [cell_blk e]; rfl⟩)
  have BA := Lib.hid hb_
  clear hb_ b0_ b1_ b2_
  obtain ⟨z0, -, -, -, -⟩ := T2.out w0 (Below.refl _ _)
  go_wp2_with fail
  clear z0 T2
  go_loopw [9, 10, 18] (fun sv hv iv wr => ∃ (k : Nat) (s : List Int) (h : Nat) (v : Value), v = sv ∧ k ≤ nc ∧ s.length ≤ k ∧ h ≤ k ∧ iv = .int .i64 k ∧ hv = .int .i64 h ∧ res = stkL sh lo (cd.drop k) s h ∧ TyOwn wr w0.heap.size v s ∧ Below w0.heap.size w0 wr) (fun _ _ iv _ => nc - (intOf iv).toNat)
  case atStart => exact ⟨0, [], 0, _, rfl, by omega, by simp, by omega, rfl, rfl, HR.out, World.ownsRow_nil _ _ _ _, Below.refl _ _⟩
  case round =>
    obtain ⟨k, s, h, v, rfl, hk, hsk, hhk, rfl, rfl, hr, ho, hb⟩ := hrel
    have Hr := Lib.hid hr; have Ho := Lib.hid ho; have Hb := Lib.hid hb
    clear hr ho hb
    by_cases hlt : k < nc
    · obtain ⟨b, o, rfl, hb1, x0, x1, x2, x3⟩ := InsAt.cells HC.out (show k < cd.length by rw [M3.out]; exact hlt)
      have HB := Lib.hid (BA.out.trans (Hb.out.mono BA.out.size))
      have x0 := (HB.out.cell (p := ⟨b, _, none⟩) (Nat.lt_of_lt_of_le hb1 hB)).trans x0
      have x1 := (HB.out.cell (p := ⟨b, _, none⟩) (Nat.lt_of_lt_of_le hb1 hB)).trans x1
      have x2 := (HB.out.cell (p := ⟨b, _, none⟩) (Nat.lt_of_lt_of_le hb1 hB)).trans x2
      have x3 := (HB.out.cell (p := ⟨b, _, none⟩) (Nat.lt_of_lt_of_le hb1 hB)).trans x3
      have HK := Lib.hid (HI.out k hlt)
      have HD : Hid (cd.drop k = cd.getD k default :: cd.drop (k + 1)) := Lib.hid (drop_at cd k (by rw [M3.out]; exact hlt))
      generalize cd.getD k default = i at *
      have HK1 := Lib.hid (fun e => inOk_load HK.out e)
      have HK2 := Lib.hid (fun e => inOk_fetch HK.out e)
      have HX1 : Hid (stk1 sh lo i s = none → res = none) := Lib.hid (fun e => by rw [Hr.out, HD.out, stkL_cons, e])
      have HX2 : Hid (∀ s', stk1 sh lo i s = some s' → res = stkL sh lo (cd.drop (k + 1)) s' (max h s'.length)) := Lib.hid (fun s' e => by rw [Hr.out, HD.out, stkL_cons, e])
      have HQ : Hid (stk1 sh lo i s = if i.op = 30 then stk1.pushT (lo.getD i.arg.toNat default).t s else if i.op = 31 then stk1.pushT (sh.getD i.arg.toNat default).t s
        else if i.op = 1 then stk1.pushT i.l.t s else if s.length < opn i.op then none
        else if s.getD (s.length - opn i.op) 0 = s.getD (s.length - 1) 0 then stk1.pushT (resT i.op (s.getD (s.length - opn i.op) 0)) (s.take (s.length - opn i.op)) else none) := Lib.hid rfl
      generalize stk1 sh lo i s = ot at *
      clear HK Hr
      obtain ⟨op, ag, t, bt⟩ := i
      dsimp only at *
      go_upto_region 6 with (fail)
      clear x0 x1 x2 x3
      have HH : Hid (wr.heap.size = wr.heap.size) := Lib.hid rfl
      obtain ⟨b0_, hb_⟩ := boxes1 wr (.cells #[.int .u8 op, .int .i64 ag, .int .u8 t, .int .u64 bt] 53)
      generalize wr.alloc (.cells #[.int .u8 op, .int .i64 ag, .int .u8 t, .int .u64 bt] 53) = wi at *
      have Ti : Hid (∀ W, Below wi.heap.size wi W → W.cell? ⟨wr.heap.size, 0, none⟩ = some (.int .u8 op) ∧ W.cell? ⟨wr.heap.size, 1, none⟩ = some (.int .i64 ag) ∧ W.cell? ⟨wr.heap.size, 2, none⟩ = some (.int .u8 t) ∧ W.cell? ⟨wr.heap.size, 3, none⟩ = some (.int .u64 bt)) := Lib.hid (fun W hW => by have e := (hW.block _ (lt_blk b0_)).trans b0_; exact ⟨by rw [cell_blk e]; rfl, by rw [cell_blk e]; rfl, by rw [cell_blk e]; rfl, by rw [cell_blk e]; rfl⟩)
      have Bi := Lib.hid hb_
      clear hb_ b0_
      have Hi := Lib.hid (Hb.out.trans (Bi.out.mono Hb.out.size))
      have Oi : Hid (TyOwn wi w0.heap.size v s) := Lib.hid (own_below Ho.out Bi.out)
      obtain ⟨c0, c1, c2⟩ := T0.out wi Hi.out
      obtain ⟨d0, d1, d2⟩ := T1.out wi Hi.out
      obtain ⟨y0, y1, y2, y3⟩ := Ti.out wi (Below.refl _ _)
      clear Ho Hb Bi
      by_cases g1 : op = 30
      · subst g1
        obtain ⟨j, rfl, hj⟩ := HK1.out rfl
        have hj : j < nl := by omega
        obtain ⟨b2, o2, rfl, hb2, l0, -⟩ := VlsAt.cells HL.out (show j < lo.length by rw [M2.out]; exact hj)
        have l0 := ((BA.out.trans (Hi.out.mono BA.out.size)).cell (p := ⟨b2, _, none⟩) (Nat.lt_of_lt_of_le hb2 hB)).trans l0
        have HP : Hid (ot = stk1.pushT (lo.getD j default).t s) := Lib.hid HQ.out
        clear HK1 HK2 HQ
        generalize (lo.getD j default).t = tt at *
        go_upto_region 17 with (fail)
        clear l0 c0 c1 c2 d0 d1 d2 y0 y1 y2 y3
        obtain ⟨v1, e1⟩ : ∃ x, x = v := ⟨_, rfl⟩; subst e1
        obtain ⟨s1, e1⟩ : ∃ x, x = s := ⟨_, rfl⟩; subst e1
        obtain ⟨n1, e1⟩ : ∃ x, s1.length = x := ⟨_, rfl⟩
        have HL1 := Lib.hid e1
        have hn1 : n1 ≤ k := by omega
        have Ho1 : Hid (wi.ownsRow w0.heap.size 48 1 v1 n1 (tyc s1)) := Lib.hid (by have := Oi.out; unfold TyOwn at this; rwa [e1] at this)
        clear e1
        have Hb1 := Hi
        clear Oi Hi
        by_cases z : tt = 0
        · subst z
          have HN := Lib.hid (HX1.out (HP.out.trans (if_pos rfl)))
          go_wp2_with fail
          go_ret3
          exact ⟨by rw [HN.out]; rfl, BA.out.trans (Hb1.out.mono BA.out.size)⟩
        · have dz : (tt == 0) = false := by simpa using z
          have HN := Lib.hid (HX2.out _ (HP.out.trans (if_neg z)))
          go_wp2_with (at_builtin; refine wpList_append_one0 ETy rfl (.tmp 84) (.tmp 86) rfl w0.heap.size (.int .u8 tt) rfl v1 n1 (tyc s1) rfl Ho1.out rfl (by omega) (by omega) w0 (Nat.le_refl _) Hb1.out ?_; intro v5 w5 h2 h3 h4 h5; clear h4 h5; have h6 := own_rdS h2; obtain ⟨A5, c5, rfl, -, -, -⟩ := h6; have O5 := Lib.hid h2; have B5 := Lib.hid h3; clear h2 h3)
          go_roundw
          case rel => exact ⟨k + 1, s1 ++ [tt], max h (n1 + 1), _, rfl, by omega, by rw [List.length_append, HL1.out]; exact Nat.succ_le_succ hn1, by omega, by go_num, by first | go_num | (simp; omega), by rw [HN.out, List.length_append, HL1.out]; rfl, by unfold TyOwn tyc; rw [List.length_append, List.map_append, HL1.out]; exact O5.out, B5.out⟩
          case measure => simp [intOf]; omega
      by_cases g2 : op = 31
      · subst g2
        obtain ⟨j, rfl, hj⟩ := HK2.out rfl
        have hj : j < ns := by omega
        obtain ⟨b2, o2, rfl, hb2, l0, -⟩ := VlsAt.cells HS.out (show j < sh.length by rw [M1.out]; exact hj)
        have l0 := ((BA.out.trans (Hi.out.mono BA.out.size)).cell (p := ⟨b2, _, none⟩) (Nat.lt_of_lt_of_le hb2 hB)).trans l0
        have HP : Hid (ot = stk1.pushT (sh.getD j default).t s) := Lib.hid HQ.out
        clear HK1 HK2 HQ
        generalize (sh.getD j default).t = tt at *
        go_upto_region 17 with (fail)
        clear l0 c0 c1 c2 d0 d1 d2 y0 y1 y2 y3
        obtain ⟨v1, e1⟩ : ∃ x, x = v := ⟨_, rfl⟩; subst e1
        obtain ⟨s1, e1⟩ : ∃ x, x = s := ⟨_, rfl⟩; subst e1
        obtain ⟨n1, e1⟩ : ∃ x, s1.length = x := ⟨_, rfl⟩
        have HL1 := Lib.hid e1
        have hn1 : n1 ≤ k := by omega
        have Ho1 : Hid (wi.ownsRow w0.heap.size 48 1 v1 n1 (tyc s1)) := Lib.hid (by have := Oi.out; unfold TyOwn at this; rwa [e1] at this)
        clear e1
        have Hb1 := Hi
        clear Oi Hi
        by_cases z : tt = 0
        · subst z
          have HN := Lib.hid (HX1.out (HP.out.trans (if_pos rfl)))
          go_wp2_with fail
          go_ret3
          exact ⟨by rw [HN.out]; rfl, BA.out.trans (Hb1.out.mono BA.out.size)⟩
        · have dz : (tt == 0) = false := by simpa using z
          have HN := Lib.hid (HX2.out _ (HP.out.trans (if_neg z)))
          go_wp2_with (at_builtin; refine wpList_append_one0 ETy rfl (.tmp 84) (.tmp 86) rfl w0.heap.size (.int .u8 tt) rfl v1 n1 (tyc s1) rfl Ho1.out rfl (by omega) (by omega) w0 (Nat.le_refl _) Hb1.out ?_; intro v5 w5 h2 h3 h4 h5; clear h4 h5; have h6 := own_rdS h2; obtain ⟨A5, c5, rfl, -, -, -⟩ := h6; have O5 := Lib.hid h2; have B5 := Lib.hid h3; clear h2 h3)
          go_roundw
          case rel => exact ⟨k + 1, s1 ++ [tt], max h (n1 + 1), _, rfl, by omega, by rw [List.length_append, HL1.out]; exact Nat.succ_le_succ hn1, by omega, by go_num, by first | go_num | (simp; omega), by rw [HN.out, List.length_append, HL1.out]; rfl, by unfold TyOwn tyc; rw [List.length_append, List.map_append, HL1.out]; exact O5.out, B5.out⟩
          case measure => simp [intOf]; omega
      by_cases g3 : op = 1
      · subst g3
        have HP : Hid (ot = stk1.pushT t s) := Lib.hid HQ.out
        clear HK1 HK2 HQ
        go_upto_region 17 with (fail)
        clear c0 c1 c2 d0 d1 d2 y0 y1 y2 y3
        obtain ⟨v1, e1⟩ : ∃ x, x = v := ⟨_, rfl⟩; subst e1
        obtain ⟨s1, e1⟩ : ∃ x, x = s := ⟨_, rfl⟩; subst e1
        obtain ⟨n1, e1⟩ : ∃ x, s1.length = x := ⟨_, rfl⟩
        have HL1 := Lib.hid e1
        have hn1 : n1 ≤ k := by omega
        have Ho1 : Hid (wi.ownsRow w0.heap.size 48 1 v1 n1 (tyc s1)) := Lib.hid (by have := Oi.out; unfold TyOwn at this; rwa [e1] at this)
        clear e1
        obtain ⟨tt, e1⟩ : ∃ x, x = t := ⟨_, rfl⟩; subst e1
        have Hb1 := Hi
        clear Oi Hi
        by_cases z : tt = 0
        · subst z
          have HN := Lib.hid (HX1.out (HP.out.trans (if_pos rfl)))
          go_wp2_with fail
          go_ret3
          exact ⟨by rw [HN.out]; rfl, BA.out.trans (Hb1.out.mono BA.out.size)⟩
        · have dz : (tt == 0) = false := by simpa using z
          have HN := Lib.hid (HX2.out _ (HP.out.trans (if_neg z)))
          go_wp2_with (at_builtin; refine wpList_append_one0 ETy rfl (.tmp 84) (.tmp 86) rfl w0.heap.size (.int .u8 tt) rfl v1 n1 (tyc s1) rfl Ho1.out rfl (by omega) (by omega) w0 (Nat.le_refl _) Hb1.out ?_; intro v5 w5 h2 h3 h4 h5; clear h4 h5; have h6 := own_rdS h2; obtain ⟨A5, c5, rfl, -, -, -⟩ := h6; have O5 := Lib.hid h2; have B5 := Lib.hid h3; clear h2 h3)
          go_roundw
          case rel => exact ⟨k + 1, s1 ++ [tt], max h (n1 + 1), _, rfl, by omega, by rw [List.length_append, HL1.out]; exact Nat.succ_le_succ hn1, by omega, by go_num, by first | go_num | (simp; omega), by rw [HN.out, List.length_append, HL1.out]; rfl, by unfold TyOwn tyc; rw [List.length_append, List.map_append, HL1.out]; exact O5.out, B5.out⟩
          case measure => simp [intOf]; omega
      have HQ1 : Hid (ot = if s.length < opn op then none
        else if s.getD (s.length - opn op) 0 = s.getD (s.length - 1) 0 then stk1.pushT (resT op (s.getD (s.length - opn op) 0)) (s.take (s.length - opn op)) else none) := Lib.hid (by rw [HQ.out, if_neg g1, if_neg g2, if_neg g3])
      have q1 : (op == 30) = false := by simpa using g1
      have q2 : (op == 31) = false := by simpa using g2
      have q3 : (op != 1) = true := by simpa using g3
      have HO := Lib.hid (operands_any op)
      have hop : 1 ≤ opn op ∧ opn op ≤ 2 := by unfold opn; split <;> omega
      obtain ⟨hop, hop2⟩ := hop
      have HRS := Lib.hid (result_any op)
      generalize opn op = m at *
      clear HQ HK1 HK2 g1 g2 g3
      generalize hls : s.length = ls at *
      have Hls := Lib.hid hls
      clear hls
      by_cases hlo : ls < m
      · have d5 : decide ((ls : Int) - (m : Int) < 0) = true := decide_eq_true (by omega)
        have HN := Lib.hid (HX1.out (HQ1.out.trans (if_pos hlo)))
        have HLEN : ∃ A5 c5, v = .slice A5 ls c5 := by obtain ⟨A5, c5, e, -, -, -⟩ := own_rdS Oi.out; rw [Hls.out] at e; exact ⟨A5, c5, e⟩
        obtain ⟨A5, c5, rfl⟩ := HLEN
        go_wp2_with fail
        refine (HO.out _).mono ?_
        rintro e w1 ⟨rfl, rfl⟩
        go_upto_region 13 with (fail)
        apply wp_region_relH (H := []) 15 [(Sum.inl _ : TT), (Sum.inl _ : TT), (Sum.inl _ : TT), (Sum.inl _ : TT), (Sum.inl _ : TT), (Sum.inl _ : TT), (Sum.inl _ : TT), (Sum.inl _ : TT), (Sum.inl _ : TT), (Sum.inl _ : TT), (Sum.inl _ : TT), (Sum.inl _ : TT), (Sum.inl _ : TT), (Sum.inl _ : TT), (Sum.inl _ : TT)] (by kernel_rfl) (by kernel_rfl) (fun _ _ _ _ _ h => h) rfl
        simp only [List.take_succ_cons, List.take_zero, List.drop_succ_cons, List.drop_zero]
        iterate 15 (apply rel_isS; (intro W hW hf; go_simp; first | exact ⟨StayS.refl _ _, rfl⟩ | rfl); simp only [Act.put, List.setIfInBounds_toArray, List.set_cons_succ, List.set_cons_zero])
        refine rel_endS ?_
        intro W hW hf
        try simp only [Act.put, List.setIfInBounds_toArray, List.set_cons_succ, List.set_cons_zero]
        refine wpList_nil ?_
        clear hf
        go_wp2_with fail
        go_ret3
        exact ⟨by rw [HN.out]; rfl, BA.out.trans ((Hi.out.trans (hW.mono Hi.out.size)).mono BA.out.size)⟩
      obtain ⟨g, cap, rfl, hcap, hcell⟩ := TyOwn.shape Oi.out (by rw [Hls.out]; omega)
      have HG := Lib.hid hcell
      clear hcell
      rw [Hls.out] at hcap HG
      have Hls2 : Hid (Value.slice (some ⟨g, 0, none⟩) s.length cap = .slice (some ⟨g, 0, none⟩) ls cap) := Lib.hid (by rw [Hls.out])
      rw [Hls2.out] at Oi ⊢
      obtain ⟨kk, hkk⟩ : ∃ kk, ls = kk + m := ⟨ls - m, by omega⟩
      have HKK := Lib.hid hkk
      have e14 : (ls : Int) - (m : Int) = kk := by omega
      have e15 : (ls : Int) - 1 = ((ls - 1 : Nat) : Int) := by omega
      have k1 : kk < ls := by omega
      have k2 : ls - 1 < ls := by omega
      have HQ2 : Hid (ot = if s.getD kk 0 = s.getD (ls - 1) 0 then stk1.pushT (resT op (s.getD kk 0)) (s.take kk) else none) := Lib.hid (by rw [HQ1.out, if_neg hlo, show ls - m = kk by omega])
      have TG : Hid (∀ W, Below wi.heap.size wi W → W.cell? ⟨g, kk, none⟩ = some (.int .u8 (s.getD kk 0)) ∧ W.cell? ⟨g, ls - 1, none⟩ = some (.int .u8 (s.getD (ls - 1) 0))) := Lib.hid (fun W hW => ⟨HG.out W hW kk k1, HG.out W hW (ls - 1) k2⟩)
      have OT : Hid (wi.ownsRow w0.heap.size 48 1 (.slice (some ⟨g, 0, none⟩) kk cap) kk (tyc (s.take kk))) := Lib.hid (by
        have h0 := Oi.out
        unfold TyOwn at h0
        rw [Hls.out] at h0
        have := own_take (k := kk) h0 (by omega)
        unfold tyc at this ⊢
        rwa [List.map_take])
      have HTL : Hid ((s.take kk).length = kk) := Lib.hid (by rw [List.length_take, Hls.out]; omega)
      generalize ls - 1 = la at *
      generalize s.getD kk 0 = sa at *
      generalize s.getD la 0 = sb at *
      generalize s.take kk = st2 at *
      have w15 : IntKind.i64.wrap (la : Int) = la := wi64 _ (by omega) (by omega)
      clear HQ1 HG hkk Oi
      go_wp2_with fail
      refine (HO.out _).mono ?_
      rintro e w1 ⟨rfl, rfl⟩
      go_upto_region 13 with (fail)
      by_cases hq : sa = sb
      rotate_left
      · have fq : (sa != sb) = true := by simpa using hq
        have HN := Lib.hid (HX1.out (HQ2.out.trans (if_neg hq)))
        apply wp_region_relH (H := []) 15 [(Sum.inl _ : TT), (Sum.inl _ : TT), (Sum.inl _ : TT), (Sum.inl _ : TT), (Sum.inl _ : TT), (Sum.inl _ : TT), (Sum.inl _ : TT), (Sum.inl _ : TT), (Sum.inl _ : TT), (Sum.inl _ : TT), (Sum.inl _ : TT), (Sum.inl _ : TT), (Sum.inl _ : TT), (Sum.inl _ : TT), (Sum.inl _ : TT)] (by kernel_rfl) (by kernel_rfl) (fun _ _ _ _ _ h => h) rfl
        simp only [List.take_succ_cons, List.take_zero, List.drop_succ_cons, List.drop_zero]
        iterate 15 (apply rel_isS; (intro W hW hf; obtain ⟨u0, u1⟩ := TG.out W hW; go_simp; first | exact ⟨StayS.refl _ _, rfl⟩ | rfl); simp only [Act.put, List.setIfInBounds_toArray, List.set_cons_succ, List.set_cons_zero])
        refine rel_endS ?_
        intro W hW hf
        try simp only [Act.put, List.setIfInBounds_toArray, List.set_cons_succ, List.set_cons_zero]
        refine wpList_nil ?_
        clear hf
        go_wp2_with fail
        go_ret3
        exact ⟨by rw [HN.out]; rfl, BA.out.trans ((Hi.out.trans (hW.mono Hi.out.size)).mono BA.out.size)⟩
      have fq : (sa != sb) = false := by simpa using hq
      have HQ3 := Lib.hid (HQ2.out.trans (if_pos hq))
      apply wp_region_relH (H := []) 15 [(Sum.inl _ : TT), (Sum.inl _ : TT), (Sum.inl _ : TT), (Sum.inl _ : TT), (Sum.inl _ : TT), (Sum.inl _ : TT), (Sum.inl _ : TT), (Sum.inl _ : TT), (Sum.inl _ : TT), (Sum.inl _ : TT), (Sum.inl _ : TT), (Sum.inl _ : TT), (Sum.inl _ : TT), (Sum.inl _ : TT), (Sum.inl _ : TT)] (by kernel_rfl) (by kernel_rfl) (fun _ _ _ _ _ h => h) rfl
      simp only [List.take_succ_cons, List.take_zero, List.drop_succ_cons, List.drop_zero]
      iterate 15 (apply rel_isS; (intro W hW hf; obtain ⟨u0, u1⟩ := TG.out W hW; go_simp; first | exact ⟨StayS.refl _ _, rfl⟩ | rfl); simp only [Act.put, List.setIfInBounds_toArray, List.set_cons_succ, List.set_cons_zero])
      refine rel_endS ?_
      intro W hW hf
      try simp only [Act.put, List.setIfInBounds_toArray, List.set_cons_succ, List.set_cons_zero]
      refine wpList_nil ?_
      clear hf c0 c1 c2 d0 d1 d2 y0 y1 y2 y3
      have Hv := Lib.hid hW
      clear hW fq hq
      have Ty : Hid (∀ W', Below W.heap.size W W' → W'.cell? ⟨wr.heap.size, 0, none⟩ = some (.int .u8 op)) := Lib.hid (fun W' h => (Ti.out W' (Hv.out.trans (h.mono Hv.out.size))).1)
      have TG2 : Hid (∀ W', Below W.heap.size W W' → W'.cell? ⟨g, kk, none⟩ = some (.int .u8 sa)) := Lib.hid (fun W' h => (TG.out W' (Hv.out.trans (h.mono Hv.out.size))).1)
      have OT2 := Lib.hid (own_below OT.out Hv.out)
      have Hw := Lib.hid (Hi.out.trans (Hv.out.mono Hi.out.size))
      have HRS2 := Lib.hid (HRS.out sa)
      generalize resT op sa = tt at *
      clear TG Ti OT HRS
      obtain ⟨w9, e9⟩ : ∃ x, x = W := ⟨_, rfl⟩; subst e9
      go_upto_region 15 with (fail)
      apply wp_region_relH (H := []) 8 [(Sum.inl _ : TT), (Sum.inl _ : TT), (Sum.inl _ : TT), (Sum.inl _ : TT), (Sum.inl _ : TT), (Sum.inl _ : TT), (Sum.inl _ : TT), (Sum.inl _ : TT)] (by kernel_rfl) (by kernel_rfl) (fun _ _ _ _ _ h => h) rfl
      simp only [List.take_succ_cons, List.take_zero, List.drop_succ_cons, List.drop_zero]
      iterate 6 (apply rel_isS; (intro W hW hf; have u0 := Ty.out W hW; have u1 := TG2.out W hW; go_simp; first | exact ⟨StayS.refl _ _, rfl⟩ | rfl); simp only [Act.put, List.setIfInBounds_toArray, List.set_cons_succ, List.set_cons_zero])
      apply rel_isS
      · intro W hW hf
        exact rel_callS hW rfl (by go_simp <;> first | rfl | exact ⟨rfl, rfl⟩ | exact ⟨rfl, rfl, rfl⟩) ((HRS2.out W).mono fun e w' ⟨a, b⟩ => ⟨_, a, b, rfl⟩)
      simp only [Act.put, List.setIfInBounds_toArray, List.set_cons_succ, List.set_cons_zero]
      iterate 1 (apply rel_isS; (intro W hW hf; go_simp; first | exact ⟨StayS.refl _ _, rfl⟩ | rfl); simp only [Act.put, List.setIfInBounds_toArray, List.set_cons_succ, List.set_cons_zero])
      refine rel_endS ?_
      intro W hW hf
      try simp only [Act.put, List.setIfInBounds_toArray, List.set_cons_succ, List.set_cons_zero]
      refine wpList_nil ?_
      clear hf
      go_upto_region 17 with (fail)
      have Ho1 : Hid (W.ownsRow w0.heap.size 48 1 (.slice (some ⟨g, 0, none⟩) kk cap) kk (tyc st2)) := Lib.hid (own_below OT2.out hW)
      have Hb1 := Lib.hid (Hw.out.trans (hW.mono Hw.out.size))
      obtain ⟨s1, e1⟩ : ∃ x, x = st2 := ⟨_, rfl⟩; subst e1
      obtain ⟨n1, e1⟩ : ∃ x, x = kk := ⟨_, rfl⟩; subst e1
      obtain ⟨v1, e1⟩ : ∃ x, x = Value.slice (some ⟨g, 0, none⟩) n1 cap := ⟨_, rfl⟩
      rw [← e1] at Ho1 ⊢
      have HL1 := HTL; have HP := HQ3
      have hn1 : n1 ≤ k := by omega
      clear e14 e15 w15 e1 HTL HQ2 HQ3
      by_cases z : tt = 0
      · subst z
        have HN := Lib.hid (HX1.out (HP.out.trans (if_pos rfl)))
        go_wp2_with fail
        go_ret3
        exact ⟨by rw [HN.out]; rfl, BA.out.trans (Hb1.out.mono BA.out.size)⟩
      · have dz : (tt == 0) = false := by simpa using z
        have HN := Lib.hid (HX2.out _ (HP.out.trans (if_neg z)))
        go_wp2_with (at_builtin; refine wpList_append_one0 ETy rfl (.tmp 84) (.tmp 86) rfl w0.heap.size (.int .u8 tt) rfl v1 n1 (tyc s1) rfl Ho1.out rfl (by omega) (by omega) w0 (Nat.le_refl _) Hb1.out ?_; intro v5 w5 h2 h3 h4 h5; clear h4 h5; have h6 := own_rdS h2; obtain ⟨A5, c5, rfl, -, -, -⟩ := h6; have O5 := Lib.hid h2; have B5 := Lib.hid h3; clear h2 h3)
        go_roundw
        case rel => exact ⟨k + 1, s1 ++ [tt], max h (n1 + 1), _, rfl, by omega, by rw [List.length_append, HL1.out]; exact Nat.succ_le_succ hn1, by omega, by go_num, by first | go_num | (simp; omega), by rw [HN.out, List.length_append, HL1.out]; rfl, by unfold TyOwn tyc; rw [List.length_append, List.map_append, HL1.out]; exact O5.out, B5.out⟩
        case measure => simp [intOf]; omega
    · obtain rfl : nc = k := by omega
      have HE : Hid (res = some (s, h)) := Lib.hid (by rw [Hr.out, show cd.drop nc = [] from by rw [← M3.out]; simp]; rfl)
      go_wp2_with fail
      go_ret3
      exact ⟨by rw [HE.out]; exact ⟨by omega, _, rfl, TyOwn.low Ho.out BA.out.size⟩, BA.out.trans (Hb.out.mono BA.out.size)⟩
end Go.Proofs.Ytbmpjphemjponaa
