/- several texts in one: Table.Who, Leave, Len, Clear; slices.Clone of tenants., Table.Auth. -/
import Derived.Test.YtkdkpnidiehdfaaDoorZu
import Derived.Test.YtkdkpnidiehdfaaDoorDm
section
set_option linter.unusedSimpArgs false
set_option linter.unusedVariables false
namespace Go.Proofs.YtkdkpnidiehdfaaDoor
open Go.RowKit

set_option maxRecDepth 100000 in
set_option maxHeartbeats 1000000 in
theorem clone_tens (ts : List Tn) (n : Nat) (hn : n = ts.length) (hl : n ≤ 1000000) (ht : Toks ts) (A : Option Addr) (cap : Nat) (w : World) (hA : Tns w w.heap.size A ts) (hA0 : A = none → n = 0) :
    Calls Tryd.prog 63 #[.slice A n cap] w fun e w' => ∃ v, e = .returned v ∧ w'.ownsRow w.heap.size 77 36 v n (tnc ts) ∧ Below w.heap.size w w' := by
  have hlen := tnc_length ht
  rw [← hn] at hlen
  have HL := Lib.hid hlen; have HR := Lib.hid (hA.rd ht); have HA0 := Lib.hid hA0; have HN := Lib.hid hn
  clear hA hA0 ht hlen hn
  have q22 : ∀ (w : World) (a : Option Addr) (n c n' c' : Nat), (binOp .eql 67 (.slice a n c) (.slice none n' c')).run Tryd.prog w = .ok (.bool a.isNone) w := fun w a n c n' c' => Lib.run_eql_slice_nil w _ _ a n c n' c' ES36.ht
  rcases A with _ | a
  · have hl0 := HA0.out rfl
    subst hl0
    have HT : Hid (tnc ts = []) := Lib.hid (List.eq_nil_of_length_eq_zero HL.out)
    go_enter Tryd.func63, Tryd.ntmps63
    go_wp2_with fail
    go_ret
    exact ⟨_, rfl, ⟨by rw [HT.out]; rfl, .inl ⟨rfl, rfl⟩⟩, Below.refl _ _⟩
  · go_enter Tryd.func63, Tryd.ntmps63
    go_wp2_with (at_builtin; refine wpList_append_srcS ES36 rfl (.tmp 5) (.tmp 6) rfl w.heap.size _ 0 [] rfl (owns0S w _ _ _ (Nat.le_refl _)) w.heap.size (some a) (tnc ts) n cap rfl HL.out (HR.out.keep fun b o hb => World.cell?_alloc_lt _ _ _ hb) (fun h => by cases h) (tnc_one ts) (by omega) (by omega) w (Nat.le_refl _) (below_alloc _ _) ?_; intro v' w' h2 h3 h4 h5; clear h4 h5; have H2 := Lib.hid h2; have H3 := Lib.hid h3; clear h2 h3)
    go_ret
    exact ⟨v', rfl, by simpa using H2.out, H3.out⟩
section
variable {w : World} {p m : Nat} {t : Tb}
set_option maxRecDepth 100000 in
theorem twho_at (h : TabAt w p m t) {x : Int} (hx : inI x) : Calls Tryd.prog 43 #[.pointer (some ⟨p, 0, none⟩), .int .i64 x] w fun e w' => e = .returned (.tuple #[.int .i64 (t.who x).1, .bool (t.who x).2]) ∧ Below w.heap.size w w' := by
  have H0 := Lib.hid (tnone_at h)
  have c1 := h.mcell
  have l1 := h.look_ok hx
  unfold Tb.who
  generalize zget t.bs x = z at *
  clear h
  go_enter Tryd.func43, Tryd.ntmps43
  go_wp2_with fail
  refine H0.out.mono ?_
  rintro e w1 ⟨rfl, hw1⟩
  rw [hw1]
  clear hw1
  go_wp2_with fail
  go_ret2
  exact ⟨rfl, Below.refl _ _⟩
set_option maxRecDepth 100000 in
theorem tlen_at (h : TabAt w p m t) : Calls Tryd.prog 52 #[.pointer (some ⟨p, 0, none⟩)] w fun e w' => e = .returned (.int .i64 t.ts.length) ∧ Below w.heap.size w w' := by
  have H0 := Lib.hid (tnone_at h)
  obtain ⟨A, cap, c0, c1, _, _⟩ := h.cells
  clear h
  go_enter Tryd.func52, Tryd.ntmps52
  go_wp2_with fail
  refine H0.out.mono ?_
  rintro e w1 ⟨rfl, hw1⟩
  rw [hw1]
  clear hw1
  go_wp2_with fail
  go_ret
  exact ⟨rfl, Below.refl _ _⟩
/-- what a writing call leaves: all but the map. -/
theorem TabAt.turned {w' : World} {bs : Zl} (h : TabAt w p m t) (hm : MapZ Tryd.prog 3 w' m bs) (hg : w.grownBy w' (some m)) (hok : (Tb.mk t.ts bs).Ok) : TabAt w' p m ⟨t.ts, bs⟩ := by
  obtain ⟨A, cap, h1, h2, h3⟩ := h.own
  have hne : p ≠ m := by
    rintro rfl
    obtain ⟨es, c, e1, _⟩ := h.map
    rw [h1] at e1
    cases e1
  refine ⟨⟨A, cap, (hg.block p (lt_blk h1) (by simpa using hne)).trans h1, ?_, h3⟩, hm, hok⟩
  refine (h2.keep fun b o v hb hv => ?_).more hg.size
  have hbm : b ≠ m := h.map.no_cell hv
  exact (World.cell?_of_block (hg.block b hb (by simpa using hbm))).trans hv
set_option maxRecDepth 100000 in
theorem tleave_at (h : TabAt w p m t) {x : Int} (hx : inI x) : Calls Tryd.prog 44 #[.pointer (some ⟨p, 0, none⟩), .int .i64 x] w fun e w' => e = .returned (.int .i64 (t.leave x).1) ∧ TabAt w' p m (t.leave x).2 ∧ w.grownBy w' (some m) := by
  have H0 := Lib.hid (tnone_at h)
  have HT := Lib.hid h
  have c1 := h.mcell
  have l1 := h.look_ok hx
  obtain ⟨w2, hrun, hm2, ht2⟩ := h.map.drop intKz Tryd.underlying93 (keyInt hx) 0
  have HM := Lib.hid hm2; have HG := Lib.hid ht2.grown
  have HL : Hid (t.leave x = if (zget t.bs x).isSome then (0, { t with bs := zdel t.bs x }) else (6, t)) := Lib.hid rfl
  have HOK := Lib.hid (h.ok.leave x)
  clear hm2 ht2 h
  generalize hz : zget t.bs x = z at *
  go_enter Tryd.func44, Tryd.ntmps44
  go_wp2_with fail
  refine H0.out.mono ?_
  rintro e w1 ⟨rfl, hw1⟩
  rw [hw1]
  clear hw1
  cases z with
  | none =>
    have HE : Hid (t.leave x = (6, t)) := Lib.hid HL.out
    go_wp2_with fail
    go_ret
    exact ⟨by rw [HE.out]; rfl, by rw [HE.out]; exact HT.out, ⟨rfl, rfl, rfl, Nat.le_refl _, fun _ _ _ => rfl⟩⟩
  | some b =>
    have HE : Hid (t.leave x = (0, { t with bs := zdel t.bs x })) := Lib.hid HL.out
    go_wp2_with fail
    go_ret
    exact ⟨by rw [HE.out]; rfl, by rw [HE.out]; exact HT.out.turned HM.out HG.out (by have := HOK.out; rw [HE.out] at this; exact this), HG.out⟩
set_option maxRecDepth 100000 in
theorem tclear_at (h : TabAt w p m t) : Calls Tryd.prog 50 #[.pointer (some ⟨p, 0, none⟩)] w fun e w' => e = .returned (.int .i64 0) ∧ TabAt w' p m ⟨t.ts, []⟩ ∧ w.grownBy w' (some m) := by
  have H0 := Lib.hid (tnone_at h)
  have HT := Lib.hid h
  have c1 := h.mcell
  obtain ⟨w2, hrun, hm2, hg2⟩ := h.map.wipe Tryd.underlying93 0
  have HM := Lib.hid hm2; have HG := Lib.hid hg2
  clear hm2 hg2 h
  go_enter Tryd.func50, Tryd.ntmps50
  go_wp2_with fail
  refine H0.out.mono ?_
  rintro e w1 ⟨rfl, hw1⟩
  rw [hw1]
  clear hw1
  go_wp2_with fail
  go_ret
  exact ⟨rfl, HT.out.turned HM.out HG.out ⟨by simp [ZRising], by simp, HT.out.ok.ts, HT.out.ok.toks, by simp⟩, HG.out⟩
end
end Go.Proofs.YtkdkpnidiehdfaaDoor
end

section
set_option linter.unusedSimpArgs false
set_option linter.unusedVariables false
namespace Go.Proofs.YtkdkpnidiehdfaaDoor
open Go.RowKit

theorem pick_yes {ts : List Tn} {d : List UInt8} {k : Nat} (h : d = (ts.getD k tn0).tok) : pick ts d (k + 1) = k := by unfold pick; rw [if_pos h]
theorem pick_no {ts : List Tn} {d : List UInt8} {k : Nat} (h : ¬ d = (ts.getD k tn0).tok) : pick ts d (k + 1) = pick ts d k := by rw [pick, if_neg h]
/-- a slice of so many. -/
def LenF (L : Nat) (v : Value) (_ : World) : Prop := ∃ A cap, v = .slice A L cap
theorem LenF.keepsS (L : Nat) : KeepsS (LenF L) := fun v w w' h _ => h
section
variable {w : World} {p m : Nat} {t : Tb}
/-- what Auth leaves: the map alone is turned. -/
def AuthP (w : World) (p m : Nat) (t : Tb) (x : Int) (tok : List UInt8) (e : Ending) (w' : World) : Prop :=
  e = .returned (.tuple #[.int .i64 (t.auth x tok).1.1, .int .i64 (t.auth x tok).1.2]) ∧ TabAt w' p m (t.auth x tok).2 ∧ w.grownBy w' (some m)
theorem AuthP.stay {x : Int} {tok : List UInt8} {a b : Int} {w' : World} (h : TabAt w p m t) (he : t.auth x tok = ((a, b), t)) (hb : Below w.heap.size w w') : AuthP w p m t x tok (.returned (.tuple #[.int .i64 a, .int .i64 b])) w' := by
  unfold AuthP
  rw [he]
  exact ⟨rfl, h.below hb, grown_below hb _⟩
set_option maxRecDepth 100000 in
set_option maxHeartbeats 8000000 in
theorem tauth_at (h : TabAt w p m t) (hf : t.bs.length < 1000000) {x : Int} (hx : inI x) (tok : List UInt8) (n : Nat) (hn : n = tok.length) (hl : n ≤ 100000000) (A : Option Addr) (cap : Nat) (hA : Bs w w.heap.size A tok) (hk : KMem w) :
    Calls Tryd.prog 42 #[.pointer (some ⟨p, 0, none⟩), .int .i64 x, .slice A n cap] w (AuthP w p m t x tok) := by
  have H0 := Lib.hid (tnone_at h)
  have HT := Lib.hid h; have HA := Lib.hid hA; have HK := Lib.hid hk; have HN := Lib.hid hn
  obtain ⟨B, c2, c0, c1, hts, hcap⟩ := h.cells
  have l1 := h.look_ok hx
  have HTS := Lib.hid hts
  have hlen : t.ts.length ≤ 64 := h.ok.ts
  have HTK : Hid (Toks t.ts) := Lib.hid h.ok.toks
  have HP := Lib.hid (pick_range t.ts (sha tok) t.ts.length)
  have HAU : Hid (t.auth x tok = t.auth x tok) := Lib.hid rfl
  conv at HAU => arg 1; rhs; unfold Tb.auth
  obtain ⟨w2, hrun, hm2, ht2⟩ := h.map.store intKz Tryd.underlying93 (by have : maxLen = 9223372036854775807 := rfl; omega) (pick t.ts (sha tok) t.ts.length) (keyInt hx)
  clear hrun hm2 ht2
  have hpw := h.lt
  have hmw := h.ltm
  have HFEW := Lib.hid hf; have HX := Lib.hid hx
  clear h hA hk hn hts hf hx
  by_cases hneg : x < 0
  · have HE : Hid (t.auth x tok = ((0, 2), t)) := Lib.hid (by have := HAU.out; rw [if_pos hneg] at this; exact this)
    go_enter Tryd.func42, Tryd.ntmps42
    go_wp2_with fail
    refine H0.out.mono ?_
    rintro e w1 ⟨rfl, hw1⟩
    rw [hw1]
    clear hw1
    go_wp2_with fail
    go_ret2
    exact AuthP.stay HT.out HE.out (Below.refl _ _)
  rw [if_neg hneg] at HAU
  cases hz : (zget t.bs x).isSome with
  | true =>
    have HE : Hid (t.auth x tok = ((0, 7), t)) := Lib.hid (by have := HAU.out; rw [if_pos hz] at this; exact this)
    rw [hz] at l1
    go_enter Tryd.func42, Tryd.ntmps42
    go_wp2_with fail
    refine H0.out.mono ?_
    rintro e w1 ⟨rfl, hw1⟩
    rw [hw1]
    clear hw1
    go_wp2_with fail
    go_ret2
    exact AuthP.stay HT.out HE.out (Below.refl _ _)
  | false =>
    rw [hz, if_neg (by simp)] at HAU
    rw [hz] at l1
    have HZ := Lib.hid hz
    clear hz
    go_enter Tryd.func42, Tryd.ntmps42
    go_wp2_with fail
    refine H0.out.mono ?_
    rintro e w1 ⟨rfl, hw1⟩
    rw [hw1]
    clear hw1
    go_wp2_with fail
    generalize hsz : t.ts.length = sz at *
    go_loopw [10, 11, 34] (fun wv _ iv wr => ∃ k : Nat, k ≤ sz ∧ iv = .int .i64 k ∧ wv = .int .i64 (pick t.ts (sha tok) k) ∧ Below w.heap.size w wr) (fun _ _ iv _ => sz - (RowKit.intOf iv).toNat)
    case atStart => exact ⟨0, by omega, rfl, rfl, Below.refl _ _⟩
    case round =>
      obtain ⟨k, hk, rfl, rfl, hb⟩ := hrel
      have HB := Lib.hid hb
      clear hb
      by_cases hlt : k < sz
      · obtain ⟨b, off, rfl, hbw, hr⟩ := (HTS.out.below HB.out) k (by omega)
        have HI := Lib.hid hr
        have HTI := Lib.hid (HTK.out.get k)
        have HYE : Hid (sha tok = (t.ts.getD k tn0).tok → pick t.ts (sha tok) (k + 1) = k) := Lib.hid pick_yes
        have HNO : Hid (¬ sha tok = (t.ts.getD k tn0).tok → pick t.ts (sha tok) (k + 1) = pick t.ts (sha tok) k) := Lib.hid pick_no
        clear hr
        generalize t.ts.getD k tn0 = u at *
        go_upto_region 12 with (first
          | (refine wpList_load_mid (op := ⟨some 38, .load 77 _, _, _, _, _⟩) rfl _ _ rfl b (off + k * 36) rfl (tnl u) _ HI.out Tryd.underlying77 rfl (size36 HTI.out) ?_)
          | (refine wpList_store_row (o := ⟨none, .store 77 (.tmp 12) (.tmp 38), _, _, _, _⟩) rfl _ _ _ rfl wr.heap.size (tnl u).toArray rfl rfl _ _ (heap_alloc_new _ _) (size36' HTI.out) (by rw [tnl_size HTI.out]; rfl) (all_oneCell_toArray (tnl_one _)) ?_
             generalize hw3 : (wr.alloc _).setRow wr.heap.size (tnl u).toArray = w3
             have HX3 : Hid (w3.heap[wr.heap.size]? = some (.cells (tnl u).toArray 77 (0, 0))) := Lib.hid (by rw [← hw3]; exact (laid_new _ _ _ _).1)
             have HB3 : Hid (Below wr.heap.size wr w3) := Lib.hid (by rw [← hw3]; exact (laid_new _ _ _ _).2.1)
             clear hw3
             have HD3 := Lib.hid ((TnAt.of_block HX3.out).tok HTI.out)))
        have HBW3 : Hid (Below w.heap.size w w3) := Lib.hid (HB.out.trans (HB3.out.mono HB.out.size))
        have HTO := Lib.hid (by have := token_any tok (by rw [← HN.out]; exact hl) A cap u.tok HTI.out w3 ((HA.out.below HBW3.out).more HBW3.out.size) (KMem.below HK.out HBW3.out HK.out.pos); rw [← HN.out] at this; exact this)
        go_wp2_with (refine wpList_load_mid (op := ⟨some 41, .load 25 _, _, _, _, _⟩) rfl _ _ rfl wr.heap.size (0 + 1) rfl (bcells u.tok) _ HD3.out Tryd.underlying25 rfl (size32 HTI.out) ?_)
        refine HTO.out.mono ?_
        rintro e w4 ⟨rfl, hb4⟩
        have HB4 : Hid (Below w.heap.size w w4) := Lib.hid (HBW3.out.trans (hb4.mono HBW3.out.size))
        clear hb4
        by_cases htk : sha tok = u.tok
        · have g1 : decide (sha tok = u.tok) = true := decide_eq_true htk
          have HP2 := Lib.hid (HYE.out htk)
          go_wp2_with fail
          go_roundw
          case rel => exact ⟨k + 1, by omega, by go_num, by rw [HP2.out], HB4.out⟩
          case measure => simp [RowKit.intOf]; omega
        · have g1 : decide (sha tok = u.tok) = false := decide_eq_false htk
          have HP2 := Lib.hid (HNO.out htk)
          go_wp2_with fail
          go_roundw
          case rel => exact ⟨k + 1, by omega, by go_num, by rw [HP2.out], HB4.out⟩
          case measure => simp [RowKit.intOf]; omega
      · obtain rfl : k = sz := by omega
        have HTAB : Hid (∀ W, Below w.heap.size w W → TabAt W p m t) := Lib.hid fun W hW => HT.out.below hW
        by_cases hp0 : pick t.ts (sha tok) k < 0
        · have HE : Hid (t.auth x tok = ((0, 11), t)) := Lib.hid (by have := HAU.out; rw [if_pos hp0] at this; exact this)
          go_wp2_with fail
          go_ret2
          exact AuthP.stay HT.out HE.out HB.out
        rw [if_neg hp0] at HAU
        have hpk : 0 ≤ pick t.ts (sha tok) k ∧ pick t.ts (sha tok) k < k := ⟨by omega, HP.out.2⟩
        obtain ⟨q, hq⟩ : ∃ q : Nat, pick t.ts (sha tok) k = (q : Int) := ⟨(pick t.ts (sha tok) k).toNat, by omega⟩
        rw [hq] at HAU hpk ⊢
        rw [hq] at hp0
        have hqk : q < k := by omega
        rw [Int.toNat_natCast] at HAU
        obtain ⟨b, off, rfl, hbw, hr⟩ := (HTS.out.below HB.out) q (by omega)
        have HI := Lib.hid hr
        have HTI := Lib.hid (HTK.out.get q)
        have HPQ := Lib.hid hq
        clear hr hq
        generalize t.ts.getD q tn0 = u at *
        have hbw2 : b < wr.heap.size := Nat.lt_of_lt_of_le hbw HB.out.size
        have HC : Hid (∀ W, Below wr.heap.size wr W → W.cell? ⟨p, 0, none⟩ = some (.slice (some ⟨b, off, none⟩) k c2) ∧ W.cell? ⟨b, off + q * 36 + 35, none⟩ = some (.int .i64 u.conns)) := Lib.hid fun W hW => by
          have e := HB.out.trans (hW.mono HB.out.size)
          exact ⟨(e.cell (p := ⟨p, 0, none⟩) hpw).trans c0, (hW.cell (p := ⟨b, _, none⟩) hbw2).trans (TnAt.conns HI.out HTI.out)⟩
        have HCN : Hid (∀ W, Below wr.heap.size wr W → Calls Tryd.prog 41 #[.pointer (some ⟨p, 0, none⟩), .int .i64 q] W fun e W' => ∃ v, e = .returned v ∧ LenF (connsOf t.bs q).length v W' ∧ Below W.heap.size W W') := Lib.hid fun W hW => by
          refine (conns_at (HTAB.out W (HB.out.trans (hW.mono HB.out.size))) q).mono ?_
          rintro e W' ⟨v, rfl, hrow, hb⟩
          obtain ⟨A, cap, rfl, _⟩ := own_rdS hrow
          exact ⟨_, rfl, ⟨A, cap, rfl⟩, hb⟩
        generalize (connsOf t.bs q).length = L at *
        have hq1 : (q : Int) < (k : Int) := by omega
        have hq0 : (0 : Int) ≤ (q : Int) := by omega
        by_cases hful : u.conns ≤ (L : Int)
        · have HE : Hid (t.auth x tok = ((0, 8), t)) := Lib.hid (by have := HAU.out; rw [if_pos hful] at this; exact this)
          have g1 : decide (u.conns ≤ (L : Int)) = true := decide_eq_true hful
          go_wp2_with fail
          apply wp_region_relS 14 [(Sum.inl _ : TT), (Sum.inl _ : TT), .inr (LenF L), (Sum.inl _ : TT), (Sum.inl _ : TT), (Sum.inl _ : TT), (Sum.inl _ : TT), (Sum.inl _ : TT), (Sum.inl _ : TT), (Sum.inl _ : TT), (Sum.inl _ : TT), (Sum.inl _ : TT), (Sum.inl _ : TT), (Sum.inl _ : TT)] (by kernel_rfl) (by kernel_rfl) rfl
          simp only [List.take_succ_cons, List.take_zero, List.drop_succ_cons, List.drop_zero]
          iterate 2 (apply rel_isS; (intro W hW hf; go_simp; first | exact ⟨StayS.refl _ _, rfl⟩ | rfl); simp only [Act.put, List.setIfInBounds_toArray, List.set_cons_succ, List.set_cons_zero])
          refine rel_fitsS (fun W hW hf => rel_callS hW rfl (by go_simp <;> first | rfl | exact ⟨rfl, rfl⟩ | exact ⟨rfl, rfl, rfl⟩) ((HCN.out W hW).mono fun e W' ⟨v, h1, h2, h3⟩ => ⟨v, h1, h3, h2⟩)) (LenF.keepsS _) fun v1 => ?_
          simp only [Act.put, List.setIfInBounds_toArray, List.set_cons_succ, List.set_cons_zero]
          iterate 1 (apply rel_isS; (intro W hW hf; have h0 := hf (51, LenF L v1) (by simp) (by simp [Oper.looksAt, Op.operands, Call.operands]); obtain ⟨A1, k1, rfl⟩ := h0; go_simp; first | exact ⟨StayS.refl _ _, rfl⟩ | rfl); simp only [Act.put, List.setIfInBounds_toArray, List.set_cons_succ, List.set_cons_zero])
          iterate 10 (apply rel_isS; (intro W hW hf; obtain ⟨x1, x2⟩ := HC.out W hW; go_simp; first | exact ⟨StayS.refl _ _, rfl⟩ | rfl); simp only [Act.put, List.setIfInBounds_toArray, List.set_cons_succ, List.set_cons_zero])
          refine rel_endS ?_
          intro W hW hf
          try simp only [Act.put, List.setIfInBounds_toArray, List.set_cons_succ, List.set_cons_zero]
          have HWX := Lib.hid hW
          clear hW hf
          go_wp2_with fail
          go_ret2
          exact AuthP.stay HT.out HE.out (HB.out.trans (HWX.out.mono HB.out.size))
        · have HE : Hid (t.auth x tok = (((q : Int), 0), { t with bs := zput t.bs x q })) := Lib.hid (by have := HAU.out; rw [if_neg hful] at this; exact this)
          have g1 : decide (u.conns ≤ (L : Int)) = false := decide_eq_false hful
          have HOK := Lib.hid (HT.out.ok.auth HFEW.out x HX.out tok)
          go_wp2_with fail
          apply wp_region_relS 14 [(Sum.inl _ : TT), (Sum.inl _ : TT), .inr (LenF L), (Sum.inl _ : TT), (Sum.inl _ : TT), (Sum.inl _ : TT), (Sum.inl _ : TT), (Sum.inl _ : TT), (Sum.inl _ : TT), (Sum.inl _ : TT), (Sum.inl _ : TT), (Sum.inl _ : TT), (Sum.inl _ : TT), (Sum.inl _ : TT)] (by kernel_rfl) (by kernel_rfl) rfl
          simp only [List.take_succ_cons, List.take_zero, List.drop_succ_cons, List.drop_zero]
          iterate 2 (apply rel_isS; (intro W hW hf; go_simp; first | exact ⟨StayS.refl _ _, rfl⟩ | rfl); simp only [Act.put, List.setIfInBounds_toArray, List.set_cons_succ, List.set_cons_zero])
          refine rel_fitsS (fun W hW hf => rel_callS hW rfl (by go_simp <;> first | rfl | exact ⟨rfl, rfl⟩ | exact ⟨rfl, rfl, rfl⟩) ((HCN.out W hW).mono fun e W' ⟨v, h1, h2, h3⟩ => ⟨v, h1, h3, h2⟩)) (LenF.keepsS _) fun v1 => ?_
          simp only [Act.put, List.setIfInBounds_toArray, List.set_cons_succ, List.set_cons_zero]
          iterate 1 (apply rel_isS; (intro W hW hf; have h0 := hf (51, LenF L v1) (by simp) (by simp [Oper.looksAt, Op.operands, Call.operands]); obtain ⟨A1, k1, rfl⟩ := h0; go_simp; first | exact ⟨StayS.refl _ _, rfl⟩ | rfl); simp only [Act.put, List.setIfInBounds_toArray, List.set_cons_succ, List.set_cons_zero])
          iterate 10 (apply rel_isS; (intro W hW hf; obtain ⟨x1, x2⟩ := HC.out W hW; go_simp; first | exact ⟨StayS.refl _ _, rfl⟩ | rfl); simp only [Act.put, List.setIfInBounds_toArray, List.set_cons_succ, List.set_cons_zero])
          refine rel_endS ?_
          intro W hW hf
          try simp only [Act.put, List.setIfInBounds_toArray, List.set_cons_succ, List.set_cons_zero]
          have HWX := Lib.hid hW
          clear hW hf
          have HTX := Lib.hid (HTAB.out W (HB.out.trans (HWX.out.mono HB.out.size)))
          have c3 := HTX.out.mcell
          obtain ⟨w5, hrun, hm5, ht5⟩ := HTX.out.map.store intKz Tryd.underlying93 (by have h1 := HTX.out.ok.few; have : maxLen = 9223372036854775807 := rfl; omega) (q : Int) (keyInt HX.out)
          have HM5 := Lib.hid hm5; have HG5 := Lib.hid ht5.grown
          clear hm5 ht5
          go_wp2_with fail
          go_ret2
          unfold AuthP
          rw [HE.out]
          refine ⟨rfl, HTX.out.turned HM5.out HG5.out ?_, ?_⟩
          · have := HOK.out; rw [HE.out] at this; exact this
          · have hb5 := HB.out.trans (HWX.out.mono HB.out.size)
            exact ⟨HG5.out.os.trans hb5.os, HG5.out.tape.trans hb5.tape, HG5.out.output.trans hb5.output, Nat.le_trans hb5.size HG5.out.size, fun i hi hne => (HG5.out.block i (Nat.lt_of_lt_of_le hi hb5.size) hne).trans (hb5.block i hi)⟩
end
end Go.Proofs.YtkdkpnidiehdfaaDoor
end
