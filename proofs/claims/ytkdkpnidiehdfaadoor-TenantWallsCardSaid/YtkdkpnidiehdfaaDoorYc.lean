/- TenantWalls. -/
import Derived.Test.YtkdkpnidiehdfaaDoorYb
import Derived.Test.YtkdkpnidiehdfaaDoorZk
set_option linter.unusedSimpArgs false
set_option linter.unusedVariables false
namespace Go.Proofs.YtkdkpnidiehdfaaDoor
open Go.RowKit

theorem sum_any (l : List UInt8) (n : Nat) (hn : n = l.length) (hl : n ≤ 100000000) (A : Option Addr) (c : Nat) (w : World) (hA : Bs w w.heap.size A l) (hk : KMem w) : Calls Tryd.prog 16 #[.slice A n c] w fun e w' => e = .returned (dg (sha l)) ∧ Below w.heap.size w w' := by
  subst hn
  refine (dig_sum l hl A c w hA hk).mono ?_
  rintro e w' ⟨rfl, h2⟩
  exact ⟨by rw [finish_sha], h2⟩
theorem new_two2 (w0 w : World) (hk : KMem w) (hb : Below w0.heap.size w0 w) (g : Nat) (hg : w.heap[g]? = some (.cells (tnc twoT).toArray 77 (0, 0))) {p m : Nat} {t : Tb} (h : Ses w0 w p m t) :
    Calls Tryd.prog 37 #[.slice (some ⟨g, 0, none⟩) 2 2] w fun e w' => ∃ p2 m2, e = .returned (.tuple #[.pointer (some ⟨p2, 0, none⟩), .int .i64 0]) ∧ Two w0 w' p m t p2 m2 ⟨twoT, []⟩ := by
  refine (new_two w0 w hk hb g hg).mono ?_
  rintro e w' ⟨p2, m2, he, hs, _, h4, h5⟩
  have := h.tab.ltm
  exact ⟨p2, m2, he, h.ext h5, hs, by omega⟩
/-- what holds between two rounds. -/
structure WRel (w0 w : World) (i : Nat) (p m : Nat) (t : Tb) (p2 m2 : Nat) (u : Tb) : Prop where
  two : Two w0 w p m t p2 m2 u
  inv : WInv t u
  t : t.bs.length ≤ i
  u : u.bs.length ≤ i
theorem WRel.ext {w0 w w' : World} {i p m p2 m2 : Nat} {t u : Tb} (h : WRel w0 w i p m t p2 m2 u) (hb : Below w.heap.size w w') : WRel w0 w' i p m t p2 m2 u := ⟨h.two.ext hb, h.inv, h.t, h.u⟩
theorem Bs.turned {w w' : World} {m : Nat} {bs : Zl} {A : Option Addr} {l : List UInt8} (h : Bs w w.heap.size A l) (hm : MapZ Tryd.prog 3 w m bs) (hg : w.grownBy w' (some m)) : Bs w' w'.heap.size A l := fun j hj => by
  obtain ⟨b, off, e, hb, hc⟩ := h j hj
  exact ⟨b, off, e, Nat.lt_of_lt_of_le hb hg.size, (World.cell?_of_block (hg.block b hb (by simpa using hm.no_cell hc))).trans hc⟩
set_option maxRecDepth 100000 in
set_option maxHeartbeats 16000000 in
theorem tenantwalls_walk (l : List Ca) (A : Option Addr) (cap n : Nat) (hn : n = l.length) (w : World) (hA : Cas w w.heap.size A l) (hw : CaW l) (hk : KMem w) :
    Calls Tryd.prog 10 #[.slice A n cap] w fun e w' => e = .returned (.bool true) ∧ Below w.heap.size w w' := by
  have HK := Lib.hid hk; have HA := Lib.hid hA; have HW := Lib.hid hw; have HN := Lib.hid hn
  clear hk hA hw hn
  by_cases hlong : 40 < n
  · go_enter Tryd.func10, Tryd.ntmps10
    go_wp2_with fail
    refine (awake_at w HK.out).mono ?_
    rintro e w1 ⟨rfl, hb⟩
    have HB1 := Lib.hid hb
    clear hb
    go_wp2_with fail
    refine (two_at w1 (HK.out.ext HB1.out)).mono ?_
    rintro e w2 ⟨g, rfl, hg, _, hb⟩
    have HB2 := Lib.hid (HB1.out.trans (hb.mono HB1.out.size)); have HG := Lib.hid hg
    clear hb hg
    go_wp2_with fail
    refine (new_two w w2 (HK.out.ext HB2.out) HB2.out g HG.out).mono ?_
    rintro e w3 ⟨p, m, rfl, hs, _, _, _⟩
    have HS3 := Lib.hid hs
    clear hs
    go_wp2_with fail
    refine (two_at w3 HS3.out.kmem).mono ?_
    rintro e w4 ⟨g2, rfl, hg, _, hb⟩
    have HS4 := Lib.hid (HS3.out.ext hb); have HG2 := Lib.hid hg
    clear hb hg
    go_wp2_with fail
    refine (new_two2 w w4 HS4.out.kmem HS4.out.below g2 HG2.out HS4.out).mono ?_
    rintro e w5 ⟨p2, m2, rfl, ht⟩
    have HT := Lib.hid ht
    clear ht
    go_wp2_with fail
    go_ret
    exact ⟨rfl, HT.out.one.below⟩
  go_enter Tryd.func10, Tryd.ntmps10
  go_wp2_with fail
  refine (awake_at w HK.out).mono ?_
  rintro e w1 ⟨rfl, hb⟩
  have HB1 := Lib.hid hb
  clear hb
  go_wp2_with fail
  refine (two_at w1 (HK.out.ext HB1.out)).mono ?_
  rintro e w2 ⟨g, rfl, hg, _, hb⟩
  have HB2 := Lib.hid (HB1.out.trans (hb.mono HB1.out.size)); have HG := Lib.hid hg
  clear hb hg
  go_wp2_with fail
  refine (new_two w w2 (HK.out.ext HB2.out) HB2.out g HG.out).mono ?_
  rintro e w3 ⟨p, m, rfl, hs, _, _, _⟩
  have HS3 := Lib.hid hs
  clear hs
  go_wp2_with fail
  refine (two_at w3 HS3.out.kmem).mono ?_
  rintro e w4 ⟨g2, rfl, hg, _, hb⟩
  have HS4 := Lib.hid (HS3.out.ext hb); have HG2 := Lib.hid hg
  clear hb hg
  go_wp2_with fail
  refine (new_two2 w w4 HS4.out.kmem HS4.out.below g2 HG2.out HS4.out).mono ?_
  rintro e w5 ⟨p2, m2, rfl, ht⟩
  have HT := Lib.hid ht
  clear ht
  go_wp2_with fail
  go_loopw [8, 10, 11, 12, 13, 14] (fun iv _ _ _ _ _ wr => ∃ (i : Nat) (t u : Tb), i ≤ n ∧ iv = .int .i64 i ∧ WRel w wr i p m t p2 m2 u) (fun iv _ _ _ _ _ _ => n - (RowKit.intOf iv).toNat)
  case atStart => exact ⟨0, _, _, by omega, rfl, HT.out, WInv.start, Nat.le_refl _, Nat.le_refl _⟩
  case round =>
    obtain ⟨i, t, u, hi, rfl, hrel⟩ := hrel
    have HR := Lib.hid hrel
    clear hrel
    by_cases hlt : i < n
    · obtain ⟨b, off, Ai, ci, rfl, hb, c0, c1, c2, hbs, hnil⟩ := (HA.out.below HR.out.two.one.below) i (by have := HN.out; omega)
      have HBS := Lib.hid (hbs.more HR.out.two.one.below.size)
      have HI := Lib.hid (HW.out.get i)
      clear hbs hnil
      generalize ha : l.getD i ca0 = a at *
      obtain ⟨k, x, tok⟩ := a
      simp only at c0 c1 c2 HBS HI
      have HTL : Hid (tok.length = tok.length) := Lib.hid rfl
      obtain ⟨nt, hnt⟩ : ∃ nt, nt = tok.length := ⟨_, rfl⟩
      rw [← hnt] at c2
      have HNT := Lib.hid hnt
      clear ha hnt HTL
      have hltw : wr.heap.size < (wr.alloc (.cells #[.int .i64 k, .int .i64 x, .slice Ai nt ci] 70)).heap.size := by simp
      have hbx := heap_alloc_new wr (.cells #[.int .i64 k, .int .i64 x, .slice Ai nt ci] 70)
      have hbb := below_alloc wr (.cells #[.int .i64 k, .int .i64 x, .slice Ai nt ci] 70)
      generalize hwv : wr.alloc (.cells #[.int .i64 k, .int .i64 x, .slice Ai nt ci] 70) = wv at *
      have HQ := Lib.hid hbx
      have HV := Lib.hid (HR.out.ext hbb)
      have HBXV := Lib.hid ((HBS.out.below hbb).more hbb.size)
      have f0 : wv.cell? ⟨wr.heap.size, 0, none⟩ = some (.int .i64 k) := by rw [cell_blk hbx]; rfl
      have f1 : wv.cell? ⟨wr.heap.size, 1, none⟩ = some (.int .i64 x) := by rw [cell_blk hbx]; rfl
      have f2 : wv.cell? ⟨wr.heap.size, 2, none⟩ = some (.slice Ai nt ci) := by rw [cell_blk hbx]; rfl
      clear hbx hbb hltw
      by_cases hneg : x < 0
      · go_wp2_with fail
        go_ret
        exact ⟨rfl, HV.out.two.one.below⟩
      by_cases hlo : 200 < nt
      · go_wp2_with fail
        go_ret
        exact ⟨rfl, HV.out.two.one.below⟩
      by_cases hev : x % 2 = 0
      · have g1 : (x % 2 == 0) = true := by rw [hev]; rfl
        by_cases hk0 : k = 0
        · subst hk0
          go_wp2_with fail
          refine (sum_any tok nt HNT.out (by omega) Ai ci wv HBXV.out HV.out.two.one.kmem).mono ?_
          rintro e w6 ⟨rfl, hb6⟩
          have HV6 := Lib.hid (HV.out.ext hb6); have HB6 := Lib.hid hb6
          clear hb6
          go_wp2_with fail
          refine (sum_lit 2 tok2 sha_two _ (HV6.out.two.one.kmem.ext (below_alloc _ _)) w6.heap.size (heap_alloc_new _ _)).mono ?_
          rintro e w7 ⟨rfl, hb7⟩
          have HB7 : Hid (Below w6.heap.size w6 w7) := Lib.hid ((below_alloc w6 _).trans (hb7.mono (below_alloc w6 _).size))
          clear hb7
          have HVX := Lib.hid (HV6.out.ext HB7.out)
          have HBVX : Hid (Below wv.heap.size wv w7) := Lib.hid (HB6.out.trans (HB7.out.mono HB6.out.size))
          have HQX := Lib.hid ((HBVX.out.block _ (lt_blk HQ.out)).trans HQ.out)
          have HBX2 := Lib.hid ((HBXV.out.below HBVX.out).more HBVX.out.size)
          have HSL := Lib.hid (sha_length tok)
          by_cases hsha : sha tok = tok2
          · have HD : Hid (decide (sha tok = tok2) = true) := Lib.hid (decide_eq_true hsha)
            have HSH := Lib.hid hsha
            clear hsha
            go_wp2_with (refine wpList_eql_dig (op := ⟨some 77, _, _, _, _, _⟩) rfl _ _ rfl (sha tok) tok2 HSL.out rfl rfl rfl _ HD.out ?_)
            go_ret
            exact ⟨rfl, HVX.out.two.one.below⟩
          · have HD : Hid (decide (sha tok = tok2) = false) := Lib.hid (decide_eq_false hsha)
            have HSH := Lib.hid hsha
            clear hsha
            have HOC := Lib.hid (HR.out.inv.own_call (by have := HR.out.t; omega) ⟨0, x, tok⟩ HI.out hev (fun _ => HSH.out))
            have e0 : w7.cell? ⟨wr.heap.size, 0, none⟩ = some (.int .i64 0) := by rw [cell_blk HQX.out]; rfl
            have e1 : w7.cell? ⟨wr.heap.size, 1, none⟩ = some (.int .i64 x) := by rw [cell_blk HQX.out]; rfl
            have e2 : w7.cell? ⟨wr.heap.size, 2, none⟩ = some (.slice Ai nt ci) := by rw [cell_blk HQX.out]; rfl
            go_wp2_with (refine wpList_eql_dig (op := ⟨some 77, _, _, _, _, _⟩) rfl _ _ rfl (sha tok) tok2 HSL.out rfl rfl rfl _ HD.out ?_)
            refine (Two.call HVX.out.two (by have := HVX.out.t; omega) ⟨0, x, tok⟩ HI.out Ai ci nt HNT.out (by omega) HBX2.out).mono ?_
            rintro e w8 ⟨rfl, ht8, hg8⟩
            have HT8 := Lib.hid ht8; have HQ8 := Lib.hid ((hg8.block _ (lt_blk HQX.out) (by have := HR.out.two.one.tab.ltm; simp; omega)).trans HQX.out)
            have HBX8 := Lib.hid (Bs.turned HBX2.out HVX.out.two.one.tab.map hg8)
            clear ht8 hg8
            have HCU := Lib.hid (Two.call HT8.out.swap (by have := HVX.out.u; omega) ⟨0, x, tok⟩ HI.out Ai ci nt HNT.out (by omega) HBX8.out)
            have HLT := Lib.hid (t.call_length ⟨0, x, tok⟩); have HLU := Lib.hid (u.call_length ⟨0, x, tok⟩)
            rw [← HOC.out.1] at HCU
            generalize hrt : t.call ⟨0, x, tok⟩ = rt at *
            generalize hru : u.call ⟨0, x, tok⟩ = ru at *
            obtain ⟨⟨v1, v2⟩, t2⟩ := rt
            obtain ⟨rv, u2⟩ := ru
            simp only at HT8 HCU HLT HLU HOC
            have d0 : w8.cell? ⟨wr.heap.size, 0, none⟩ = some (.int .i64 0) := by rw [cell_blk HQ8.out]; rfl
            have d1 : w8.cell? ⟨wr.heap.size, 1, none⟩ = some (.int .i64 x) := by rw [cell_blk HQ8.out]; rfl
            have d2 : w8.cell? ⟨wr.heap.size, 2, none⟩ = some (.slice Ai nt ci) := by rw [cell_blk HQ8.out]; rfl
            go_wp2_with fail
            refine HCU.out.mono ?_
            rintro e w9 ⟨rfl, ht9, _⟩
            have HT9 := Lib.hid ht9.swap
            clear ht9
            go_wp2_with fail
            go_roundw
            case rel => exact ⟨i + 1, t2, u2, by omega, by go_num, HT9.out, HOC.out.2, by have := HLT.out; have := HR.out.t; omega, by have := HLU.out; have := HR.out.u; omega⟩
            case measure => simp [RowKit.intOf]; omega

        · have g0 : (k == 0) = false := by rw [beq_eq_false_iff_ne]; exact hk0
          have HOC := Lib.hid (HR.out.inv.own_call (by have := HR.out.t; omega) ⟨k, x, tok⟩ HI.out hev (fun h => absurd h hk0))
          have HVX := HV
          have HQX := HQ
          have HBX2 := HBXV
          go_wp2_with fail
          refine (Two.call HVX.out.two (by have := HVX.out.t; omega) ⟨k, x, tok⟩ HI.out Ai ci nt HNT.out (by omega) HBX2.out).mono ?_
          rintro e w8 ⟨rfl, ht8, hg8⟩
          have HT8 := Lib.hid ht8; have HQ8 := Lib.hid ((hg8.block _ (lt_blk HQX.out) (by have := HR.out.two.one.tab.ltm; simp; omega)).trans HQX.out)
          have HBX8 := Lib.hid (Bs.turned HBX2.out HVX.out.two.one.tab.map hg8)
          clear ht8 hg8
          have HCU := Lib.hid (Two.call HT8.out.swap (by have := HVX.out.u; omega) ⟨k, x, tok⟩ HI.out Ai ci nt HNT.out (by omega) HBX8.out)
          have HLT := Lib.hid (t.call_length ⟨k, x, tok⟩); have HLU := Lib.hid (u.call_length ⟨k, x, tok⟩)
          rw [← HOC.out.1] at HCU
          generalize hrt : t.call ⟨k, x, tok⟩ = rt at *
          generalize hru : u.call ⟨k, x, tok⟩ = ru at *
          obtain ⟨⟨v1, v2⟩, t2⟩ := rt
          obtain ⟨rv, u2⟩ := ru
          simp only at HT8 HCU HLT HLU HOC
          have d0 : w8.cell? ⟨wr.heap.size, 0, none⟩ = some (.int .i64 k) := by rw [cell_blk HQ8.out]; rfl
          have d1 : w8.cell? ⟨wr.heap.size, 1, none⟩ = some (.int .i64 x) := by rw [cell_blk HQ8.out]; rfl
          have d2 : w8.cell? ⟨wr.heap.size, 2, none⟩ = some (.slice Ai nt ci) := by rw [cell_blk HQ8.out]; rfl
          go_wp2_with fail
          refine HCU.out.mono ?_
          rintro e w9 ⟨rfl, ht9, _⟩
          have HT9 := Lib.hid ht9.swap
          clear ht9
          go_wp2_with fail
          go_roundw
          case rel => exact ⟨i + 1, t2, u2, by omega, by go_num, HT9.out, HOC.out.2, by have := HLT.out; have := HR.out.t; omega, by have := HLU.out; have := HR.out.u; omega⟩
          case measure => simp [RowKit.intOf]; omega
      · have g1 : (x % 2 == 0) = false := by rw [beq_eq_false_iff_ne]; exact hev
        by_cases hk0 : k = 0
        · subst hk0
          go_wp2_with fail
          refine (sum_any tok nt HNT.out (by omega) Ai ci wv HBXV.out HV.out.two.one.kmem).mono ?_
          rintro e w6 ⟨rfl, hb6⟩
          have HV6 := Lib.hid (HV.out.ext hb6); have HB6 := Lib.hid hb6
          clear hb6
          go_wp2_with fail
          refine (sum_lit 2 tok2 sha_two _ (HV6.out.two.one.kmem.ext (below_alloc _ _)) w6.heap.size (heap_alloc_new _ _)).mono ?_
          rintro e w7 ⟨rfl, hb7⟩
          have HB7 : Hid (Below w6.heap.size w6 w7) := Lib.hid ((below_alloc w6 _).trans (hb7.mono (below_alloc w6 _).size))
          clear hb7
          have HVX := Lib.hid (HV6.out.ext HB7.out)
          have HBVX : Hid (Below wv.heap.size wv w7) := Lib.hid (HB6.out.trans (HB7.out.mono HB6.out.size))
          have HQX := Lib.hid ((HBVX.out.block _ (lt_blk HQ.out)).trans HQ.out)
          have HBX2 := Lib.hid ((HBXV.out.below HBVX.out).more HBVX.out.size)
          have HSL := Lib.hid (sha_length tok)
          by_cases hsha : sha tok = tok2
          · have HD : Hid (decide (sha tok = tok2) = true) := Lib.hid (decide_eq_true hsha)
            have HSH := Lib.hid hsha
            clear hsha
            have HOC := Lib.hid (HR.out.inv.other_call (by have := HR.out.t; omega) ⟨0, x, tok⟩ HI.out hev (fun _ => HSH.out))
            have e0 : w7.cell? ⟨wr.heap.size, 0, none⟩ = some (.int .i64 0) := by rw [cell_blk HQX.out]; rfl
            have e1 : w7.cell? ⟨wr.heap.size, 1, none⟩ = some (.int .i64 x) := by rw [cell_blk HQX.out]; rfl
            have e2 : w7.cell? ⟨wr.heap.size, 2, none⟩ = some (.slice Ai nt ci) := by rw [cell_blk HQX.out]; rfl
            go_wp2_with (refine wpList_eql_dig (op := ⟨some 77, _, _, _, _, _⟩) rfl _ _ rfl (sha tok) tok2 HSL.out rfl rfl rfl _ HD.out ?_)
            refine (Two.call HVX.out.two (by have := HVX.out.t; omega) ⟨0, x, tok⟩ HI.out Ai ci nt HNT.out (by omega) HBX2.out).mono ?_
            rintro e w8 ⟨rfl, ht8, hg8⟩
            have HT8 := Lib.hid ht8; have HQ8 := Lib.hid ((hg8.block _ (lt_blk HQX.out) (by have := HR.out.two.one.tab.ltm; simp; omega)).trans HQX.out)
            have HBX8 := Lib.hid (Bs.turned HBX2.out HVX.out.two.one.tab.map hg8)
            clear ht8 hg8
            have HLT := Lib.hid (t.call_length ⟨0, x, tok⟩)
            generalize hrt : t.call ⟨0, x, tok⟩ = rt at *
            obtain ⟨⟨v1, v2⟩, t2⟩ := rt
            simp only at HT8 HLT HOC
            go_wp2_with fail
            go_roundw
            case rel => exact ⟨i + 1, t2, u, by omega, by go_num, HT8.out, HOC.out, by have := HLT.out; have := HR.out.t; omega, by have := HR.out.u; omega⟩
            case measure => simp [RowKit.intOf]; omega

          · have HD : Hid (decide (sha tok = tok2) = false) := Lib.hid (decide_eq_false hsha)
            have HSH := Lib.hid hsha
            clear hsha
            go_wp2_with (refine wpList_eql_dig (op := ⟨some 77, _, _, _, _, _⟩) rfl _ _ rfl (sha tok) tok2 HSL.out rfl rfl rfl _ HD.out ?_)
            go_ret
            exact ⟨rfl, HVX.out.two.one.below⟩
        · have g0 : (k == 0) = false := by rw [beq_eq_false_iff_ne]; exact hk0
          have HOC := Lib.hid (HR.out.inv.other_call (by have := HR.out.t; omega) ⟨k, x, tok⟩ HI.out hev (fun h => absurd h hk0))
          have HVX := HV
          have HQX := HQ
          have HBX2 := HBXV
          go_wp2_with fail
          refine (Two.call HVX.out.two (by have := HVX.out.t; omega) ⟨k, x, tok⟩ HI.out Ai ci nt HNT.out (by omega) HBX2.out).mono ?_
          rintro e w8 ⟨rfl, ht8, hg8⟩
          have HT8 := Lib.hid ht8; have HQ8 := Lib.hid ((hg8.block _ (lt_blk HQX.out) (by have := HR.out.two.one.tab.ltm; simp; omega)).trans HQX.out)
          have HBX8 := Lib.hid (Bs.turned HBX2.out HVX.out.two.one.tab.map hg8)
          clear ht8 hg8
          have HLT := Lib.hid (t.call_length ⟨k, x, tok⟩)
          generalize hrt : t.call ⟨k, x, tok⟩ = rt at *
          obtain ⟨⟨v1, v2⟩, t2⟩ := rt
          simp only at HT8 HLT HOC
          go_wp2_with fail
          go_roundw
          case rel => exact ⟨i + 1, t2, u, by omega, by go_num, HT8.out, HOC.out, by have := HLT.out; have := HR.out.t; omega, by have := HR.out.u; omega⟩
          case measure => simp [RowKit.intOf]; omega
    · obtain rfl : i = n := by omega
      have HC1 := Lib.hid HR.out.inv.conns0; have HC2 := Lib.hid HR.out.inv.conns1
      go_wp2_with fail
      refine (HR.out.two.one.conns 0 _ rfl).mono ?_
      rintro e w6 ⟨vv, rfl, hrow, hb, _⟩
      have HR6 := Lib.hid (HR.out.ext hb)
      have hcl : (connsOf t.bs 0).length ≤ 1000000 := Nat.le_trans (connsOf_length _ _) HR.out.two.one.tab.ok.few
      obtain ⟨A0, k0, rfl, hr, _, _⟩ := own_rdS hrow
      have HRD := Lib.hid hr
      clear hrow hb hr
      go_wp2_with fail
      refine (HR6.out.two.two.conns 0 _ HC1.out.symm).mono ?_
      rintro e w7 ⟨vv, rfl, hrow, hb, _⟩
      have HR7 := Lib.hid (HR6.out.ext hb)
      obtain ⟨A1, k1, rfl, hr, _, _⟩ := own_rdS hrow
      have HRD7 := Lib.hid ((HRD.out.keep fun b o hbl => hb.cell (p := ⟨b, o, none⟩) hbl).more hb.size); have HRE7 := Lib.hid hr
      clear hrow hb hr
      have HSI := Lib.hid (ints_same (connsOf t.bs 0) (connsOf t.bs 0) _ _ rfl rfl (by omega) (by omega) A0 A1 k0 k1 w7 HRD7.out HRE7.out)
      rw [decide_eq_true rfl] at HSI
      generalize (connsOf t.bs 0).length = L at *
      go_wp2_with fail
      refine HSI.out.mono ?_
      rintro e w8 ⟨rfl, hb⟩
      have HR8 := Lib.hid (HR7.out.ext hb)
      clear hb
      go_wp2_with fail
      refine (HR8.out.two.two.conns 1 [] HC2.out).mono ?_
      rintro e w9 ⟨vv, rfl, hrow, hb, hs⟩
      obtain ⟨A2, k2, rfl, _, _, _⟩ := own_rdS hrow
      have HS9 := Lib.hid hs
      clear hrow hb hs
      simp only [List.length_nil]
      go_wp2_with fail
      go_ret
      exact ⟨rfl, HS9.out.below⟩
end Go.Proofs.YtkdkpnidiehdfaaDoor
