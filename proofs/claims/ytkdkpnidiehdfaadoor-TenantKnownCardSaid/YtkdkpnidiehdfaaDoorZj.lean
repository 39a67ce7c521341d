/- TenantKnown (printed by gen_ten24.py). -/
import Derived.Test.YtkdkpnidiehdfaaDoorZh
import Derived.Test.YtkdkpnidiehdfaaDoorZk
set_option linter.unusedSimpArgs false
set_option linter.unusedVariables false
namespace Go.Proofs.YtkdkpnidiehdfaaDoor
open Go.RowKit

set_option maxRecDepth 100000 in
theorem kn0 : (⟨twoT, []⟩ : Tb).auth 5 [1] = ((0, 0), ⟨twoT, [(5, 0)]⟩) := by decide +kernel
set_option maxRecDepth 100000 in
theorem kn1 : (⟨twoT, [(5, 0)]⟩ : Tb).auth 5 [2] = ((0, 7), ⟨twoT, [(5, 0)]⟩) := by decide +kernel
set_option maxRecDepth 100000 in
theorem kn2 : (⟨twoT, [(5, 0)]⟩ : Tb).auth 6 [1] = ((0, 8), ⟨twoT, [(5, 0)]⟩) := by decide +kernel
set_option maxRecDepth 100000 in
theorem kn3 : (⟨twoT, [(5, 0)]⟩ : Tb).auth 6 [3] = ((0, 11), ⟨twoT, [(5, 0)]⟩) := by decide +kernel
set_option maxRecDepth 100000 in
theorem kn4 : (⟨twoT, [(5, 0)]⟩ : Tb).auth (-1) [1] = ((0, 2), ⟨twoT, [(5, 0)]⟩) := by decide +kernel
set_option maxRecDepth 100000 in
theorem kn5 : (⟨twoT, [(5, 0)]⟩ : Tb).auth 7 [2] = ((1, 0), ⟨twoT, [(5, 0), (7, 1)]⟩) := by decide +kernel
set_option maxRecDepth 100000 in
theorem kn6 : (⟨twoT, [(5, 0), (7, 1)]⟩ : Tb).auth 6 [2] = ((1, 0), ⟨twoT, [(5, 0), (6, 1), (7, 1)]⟩) := by decide +kernel
set_option maxRecDepth 100000 in
theorem kn7 : (⟨twoT, [(5, 0), (6, 1), (7, 1)]⟩ : Tb).who 5 = (0, true) := by decide +kernel
set_option maxRecDepth 100000 in
theorem kn8 : (⟨twoT, [(5, 0), (6, 1), (7, 1)]⟩ : Tb).who 8 = (0, false) := by decide +kernel
set_option maxRecDepth 100000 in
theorem kn10 : (⟨twoT, [(5, 0), (6, 1), (7, 1)]⟩ : Tb).leave 5 = (0, ⟨twoT, [(6, 1), (7, 1)]⟩) := by decide +kernel
set_option maxRecDepth 100000 in
theorem kn11 : (⟨twoT, [(6, 1), (7, 1)]⟩ : Tb).leave 5 = (6, ⟨twoT, [(6, 1), (7, 1)]⟩) := by decide +kernel
set_option maxRecDepth 100000 in
theorem kn12 : (⟨twoT, [(6, 1), (7, 1)]⟩ : Tb).auth 6 [1] = ((0, 7), ⟨twoT, [(6, 1), (7, 1)]⟩) := by decide +kernel
def oddT : List Tn := [⟨[65], tok1, 60000, 1, 1⟩, ⟨[98], tok2, 60000, 1, 2⟩]
def twiceT : List Tn := [⟨[97], tok1, 60000, 1, 1⟩, ⟨[97], tok2, 60000, 1, 2⟩]
def jobsT : List Tn := [⟨[97], tok1, 60000, 1, 1⟩, ⟨[98], tok2, 60000, 0, 2⟩]
theorem oddT_toks : Toks oddT := by
  intro x hx
  simp only [oddT, List.mem_cons, List.not_mem_nil, or_false] at hx
  rcases hx with rfl | rfl <;> rfl
theorem twiceT_toks : Toks twiceT := by
  intro x hx
  simp only [twiceT, List.mem_cons, List.not_mem_nil, or_false] at hx
  rcases hx with rfl | rfl <;> rfl
theorem jobsT_toks : Toks jobsT := by
  intro x hx
  simp only [jobsT, List.mem_cons, List.not_mem_nil, or_false] at hx
  rcases hx with rfl | rfl <;> rfl
set_option maxRecDepth 100000 in
theorem chk_nil : chk [] = 2 := by decide +kernel
set_option maxRecDepth 100000 in
theorem chk_odd : chk oddT = 5 := by decide +kernel
set_option maxRecDepth 100000 in
theorem chk_twice : chk twiceT = 7 := by decide +kernel
set_option maxRecDepth 100000 in
theorem chk_jobs : chk jobsT = 2 := by decide +kernel
theorem set_odd : (tnc twoT).toArray.setIfInBounds 0 (.string ⟨#[65]⟩) = (tnc oddT).toArray := rfl
theorem set_twice : (tnc twoT).toArray.setIfInBounds 36 (.string ⟨#[97]⟩) = (tnc twiceT).toArray := rfl
theorem set_jobs : (tnc twoT).toArray.setIfInBounds 70 (.int .i64 0) = (tnc jobsT).toArray := rfl
theorem check_lit (ts : List Tn) (c : Int) (hc : chk ts = c) (ht : Toks ts) (h2 : ts.length = 2) (w : World) (g : Nat) (hg : w.heap[g]? = some (.cells (tnc ts).toArray 77 (0, 0))) :
    Calls Tryd.prog 45 #[.slice (some ⟨g, 0, none⟩) 2 2] w fun e w' => e = .returned (.int .i64 c) ∧ Below w.heap.size w w' := by
  have := check_any ts 2 h2.symm (by decide) ht (some ⟨g, 0, none⟩) 2 (Nat.le_refl _) w (Tns.of_block hg ht)
  rwa [hc] at this
theorem check_nil (w : World) : Calls Tryd.prog 45 #[.slice none 0 0] w fun e w' => e = .returned (.int .i64 2) ∧ Below w.heap.size w w' := by
  have := check_any [] 0 rfl (by decide) (fun x hx => by cases hx) none 0 (Nat.le_refl _) w (Tns.nil _ _ _)
  rwa [chk_nil] at this
set_option maxRecDepth 100000 in
set_option maxHeartbeats 16000000 in
theorem tenantknown_walk (w : World) (hk : KMem w) : Calls Tryd.prog 12 #[] w fun e w' => e = .returned (.bool true) ∧ Below w.heap.size w w' := by
  have HK := Lib.hid hk
  clear hk
  go_enter Tryd.func12, Tryd.ntmps12
  go_wp2_with fail
  refine (two_at w HK.out).mono ?_
  rintro e w1 ⟨g, rfl, hg, hgw, hb1⟩
  have HB1 := Lib.hid hb1; have HG := Lib.hid hg
  clear hb1 hg
  go_wp2_with fail
  refine (new_two w w1 (HK.out.ext HB1.out) HB1.out g HG.out).mono ?_
  rintro e v0 ⟨p, m, rfl, hs, _, _, _⟩
  have HS0 := Lib.hid hs
  clear hs
  go_wp2_with fail
  refine (HS0.out.auth1 (by decide) (inI_small (by decide) (by decide)) 1 kn0).mono ?_
  rintro e v1 ⟨rfl, hs⟩
  have HS1 := Lib.hid hs
  clear hs
  go_wp2_with fail
  refine (HS1.out.auth1 (by decide) (inI_small (by decide) (by decide)) 2 kn1).mono ?_
  rintro e v2 ⟨rfl, hs⟩
  have HS2 := Lib.hid hs
  clear hs
  go_wp2_with fail
  refine (HS2.out.auth1 (by decide) (inI_small (by decide) (by decide)) 1 kn2).mono ?_
  rintro e v3 ⟨rfl, hs⟩
  have HS3 := Lib.hid hs
  clear hs
  go_wp2_with fail
  refine (HS3.out.auth1 (by decide) (inI_small (by decide) (by decide)) 3 kn3).mono ?_
  rintro e v4 ⟨rfl, hs⟩
  have HS4 := Lib.hid hs
  clear hs
  go_wp2_with fail
  refine (HS4.out.auth1 (by decide) (inI_small (by decide) (by decide)) 1 kn4).mono ?_
  rintro e v5 ⟨rfl, hs⟩
  have HS5 := Lib.hid hs
  clear hs
  go_wp2_with fail
  refine (HS5.out.auth1 (by decide) (inI_small (by decide) (by decide)) 2 kn5).mono ?_
  rintro e v6 ⟨rfl, hs⟩
  have HS6 := Lib.hid hs
  clear hs
  go_wp2_with fail
  refine (HS6.out.auth1 (by decide) (inI_small (by decide) (by decide)) 2 kn6).mono ?_
  rintro e v7 ⟨rfl, hs⟩
  have HS7 := Lib.hid hs
  clear hs
  go_wp2_with fail
  refine (HS7.out.who (inI_small (by decide) (by decide)) kn7).mono ?_
  rintro e v8 ⟨rfl, hs⟩
  have HS8 := Lib.hid hs
  clear hs
  go_wp2_with fail
  refine (HS8.out.who (inI_small (by decide) (by decide)) kn8).mono ?_
  rintro e v9 ⟨rfl, hs⟩
  have HS9 := Lib.hid hs
  clear hs
  go_wp2_with fail
  refine (HS9.out.conns 1 [6, 7] rfl).mono ?_
  rintro e v10 ⟨vv, rfl, hrow, hb, hs⟩
  rw [show ([6, 7] : List Int).length = 2 from rfl] at hrow
  obtain ⟨A0, c0, rfl, hr, _, _⟩ := own_rdS hrow
  have HS10 := Lib.hid hs; have HR := Lib.hid hr
  clear hrow hb hs hr
  go_wp2_with fail
  refine (ints_same [6, 7] [6, 7] 2 2 rfl rfl (by decide) (by decide) A0 (some ⟨v10.heap.size, 0, none⟩) c0 2 (v10.alloc (.cells #[.int .i64 6, .int .i64 7] 3)) ((HR.out.keep fun b o hb => World.cell?_alloc_lt _ _ _ hb).more (by simp)) (fun j u hu => ⟨_, 0, rfl, by simp, by rw [cell_blk (heap_alloc_new _ _), Nat.zero_add]; simpa using hu⟩)).mono ?_
  rintro e x10 ⟨rfl, hb⟩
  have HT10 := Lib.hid ((HS10.out.alloc _).ext hb)
  clear hb
  go_wp2_with fail
  refine (HT10.out.leave (inI_small (by decide) (by decide)) kn10).mono ?_
  rintro e v11 ⟨rfl, hs⟩
  have HS11 := Lib.hid hs
  clear hs
  go_wp2_with fail
  refine (HS11.out.leave (inI_small (by decide) (by decide)) kn11).mono ?_
  rintro e v12 ⟨rfl, hs⟩
  have HS12 := Lib.hid hs
  clear hs
  go_wp2_with fail
  refine (HS12.out.auth1 (by decide) (inI_small (by decide) (by decide)) 1 kn12).mono ?_
  rintro e v13 ⟨rfl, hs⟩
  have HS13 := Lib.hid hs
  clear hs
  have HK1 := Lib.hid HS13.out.kmem; have HBL := Lib.hid HS13.out.below
  go_wp2_with fail
  refine (two_at v13 HK1.out).mono ?_
  rintro e y1 ⟨g1, rfl, hg1, hgw1, hb1⟩
  have HY1 := Lib.hid hb1; have HG1 := Lib.hid hg1
  clear hb1 hg1
  go_wp2_with fail
  refine (two_at y1 (HK1.out.ext HY1.out)).mono ?_
  rintro e y2 ⟨g2, rfl, hg2, hgw2, hb2⟩
  have HY2 := Lib.hid hb2; have HG2 := Lib.hid hg2; have HG12 := Lib.hid ((hb2.block _ (lt_blk HG1.out)).trans HG1.out)
  have hlt12 := lt_blk HG1.out
  clear hb2 hg2
  go_wp2_with fail
  refine (two_at y2 ((HK1.out.ext HY1.out).ext HY2.out)).mono ?_
  rintro e y3 ⟨g3, rfl, hg3, hgw3, hb3⟩
  have hlt23 := lt_blk HG2.out
  have HY3 := Lib.hid hb3; have HG3 := Lib.hid hg3; have HG23 := Lib.hid ((hb3.block _ (lt_blk HG2.out)).trans HG2.out); have HG13 := Lib.hid ((hb3.block _ (lt_blk HG12.out)).trans HG12.out)
  have hz1 := HY1.out.size
  have hz2 := HY2.out.size
  clear hb3 hg3
  have k1 : y3.cell? ⟨g1, 0, none⟩ = some (.string (str [97])) := by rw [cell_blk HG13.out]; rfl
  have k2 : (y3.setCell ⟨g1, 0, none⟩ (.string ⟨#[65]⟩)).cell? ⟨g2, 36, none⟩ = some (.string (str [98])) := by
    rw [World.cell?_setCell_other _ _ _ _ (fun e => by injection e with e; omega), cell_blk HG23.out]; rfl
  have k3 : ((y3.setCell ⟨g1, 0, none⟩ (.string ⟨#[65]⟩)).setCell ⟨g2, 36, none⟩ (.string ⟨#[97]⟩)).cell? ⟨g3, 70, none⟩ = some (.int .i64 1) := by
    rw [World.cell?_setCell_other _ _ _ _ (fun e => by injection e with e; omega), World.cell?_setCell_other _ _ _ _ (fun e => by injection e with e; omega), cell_blk HG3.out]; rfl
  have z1 := free_blk HG13.out 0
  have z2 : (y3.setCell ⟨g1, 0, none⟩ (.string ⟨#[65]⟩)).frozen? ⟨g2, 36, none⟩ = false := by rw [World.frozen?_setCell]; exact free_blk HG23.out 36
  have z3 : ((y3.setCell ⟨g1, 0, none⟩ (.string ⟨#[65]⟩)).setCell ⟨g2, 36, none⟩ (.string ⟨#[97]⟩)).frozen? ⟨g3, 70, none⟩ = false := by rw [World.frozen?_setCell, World.frozen?_setCell]; exact free_blk HG3.out 70
  have hn12 : g1 ≠ g2 := by omega
  have hn13 : g1 ≠ g3 := by omega
  have hn23 : g2 ≠ g3 := by omega
  have q1 : (((y3.setCell ⟨g1, 0, none⟩ (.string ⟨#[65]⟩)).setCell ⟨g2, 36, none⟩ (.string ⟨#[97]⟩)).setCell ⟨g3, 70, none⟩ (.int .i64 0)).heap[g1]? = some (.cells (tnc oddT).toArray 77 (0, 0)) := by
    rw [Below.heap_setCell _ _ _ _ hn13, Below.heap_setCell _ _ _ _ hn12, ← set_odd]; exact set_blk HG13.out 0 _
  have q2 : (((y3.setCell ⟨g1, 0, none⟩ (.string ⟨#[65]⟩)).setCell ⟨g2, 36, none⟩ (.string ⟨#[97]⟩)).setCell ⟨g3, 70, none⟩ (.int .i64 0)).heap[g2]? = some (.cells (tnc twiceT).toArray 77 (0, 0)) := by
    rw [Below.heap_setCell _ _ _ _ hn23, ← set_twice]; exact set_blk ((Below.heap_setCell _ _ _ _ hn12.symm).trans HG23.out) 36 _
  have q3 : (((y3.setCell ⟨g1, 0, none⟩ (.string ⟨#[65]⟩)).setCell ⟨g2, 36, none⟩ (.string ⟨#[97]⟩)).setCell ⟨g3, 70, none⟩ (.int .i64 0)).heap[g3]? = some (.cells (tnc jobsT).toArray 77 (0, 0)) := by
    rw [← set_jobs]; exact set_blk ((Below.heap_setCell _ _ _ _ hn23.symm).trans ((Below.heap_setCell _ _ _ _ hn13.symm).trans HG3.out)) 70 _
  have hzz := HBL.out.size
  have HB3 := Lib.hid (((HBL.out.trans (HY1.out.mono hzz)).trans (HY2.out.mono (by omega))).trans (HY3.out.mono (by omega)))
  have q4 : Below w.heap.size w (((y3.setCell ⟨g1, 0, none⟩ (.string ⟨#[65]⟩)).setCell ⟨g2, 36, none⟩ (.string ⟨#[97]⟩)).setCell ⟨g3, 70, none⟩ (.int .i64 0)) := ((HB3.out.setCell (p := ⟨g1, 0, none⟩) (by show _ ≤ g1; omega) _).setCell (p := ⟨g2, 36, none⟩) (by show _ ≤ g2; omega) _).setCell (p := ⟨g3, 70, none⟩) (by show _ ≤ g3; omega) _
  have Q1 := Lib.hid q1; have Q2 := Lib.hid q2; have Q3 := Lib.hid q3; have Q4 := Lib.hid q4
  clear q1 q2 q3 q4
  go_wp2_with fail
  generalize ((y3.setCell ⟨g1, 0, none⟩ (.string ⟨#[65]⟩)).setCell ⟨g2, 36, none⟩ (.string ⟨#[97]⟩)).setCell ⟨g3, 70, none⟩ (.int .i64 0) = u0 at *
  refine (awake_at u0 (HK.out.ext Q4.out)).mono ?_
  rintro e u1 ⟨rfl, hb⟩
  have P1 := Lib.hid ((hb.block _ (lt_blk Q1.out)).trans Q1.out); have P2 := Lib.hid ((hb.block _ (lt_blk Q2.out)).trans Q2.out); have P3 := Lib.hid ((hb.block _ (lt_blk Q3.out)).trans Q3.out); have P4 := Lib.hid (Q4.out.trans (hb.mono Q4.out.size))
  clear hb
  go_wp2_with fail
  refine (check_nil u1).mono ?_
  rintro e u2 ⟨rfl, hb⟩
  have R1 := Lib.hid ((hb.block _ (lt_blk P1.out)).trans P1.out); have R2 := Lib.hid ((hb.block _ (lt_blk P2.out)).trans P2.out); have R3 := Lib.hid ((hb.block _ (lt_blk P3.out)).trans P3.out); have R4 := Lib.hid (P4.out.trans (hb.mono P4.out.size))
  clear hb
  go_wp2_with fail
  refine (check_lit oddT 5 chk_odd oddT_toks rfl u2 g1 R1.out).mono ?_
  rintro e u3 ⟨rfl, hb⟩
  have S2 := Lib.hid ((hb.block _ (lt_blk R2.out)).trans R2.out); have S3 := Lib.hid ((hb.block _ (lt_blk R3.out)).trans R3.out); have S4 := Lib.hid (R4.out.trans (hb.mono R4.out.size))
  clear hb
  go_wp2_with fail
  refine (check_lit twiceT 7 chk_twice twiceT_toks rfl u3 g2 S2.out).mono ?_
  rintro e u4 ⟨rfl, hb⟩
  have V3 := Lib.hid ((hb.block _ (lt_blk S3.out)).trans S3.out); have V4 := Lib.hid (S4.out.trans (hb.mono S4.out.size))
  clear hb
  go_wp2_with fail
  refine (check_lit jobsT 2 chk_jobs jobsT_toks rfl u4 g3 V3.out).mono ?_
  rintro e u5 ⟨rfl, hb⟩
  have X4 := Lib.hid (V4.out.trans (hb.mono V4.out.size))
  clear hb
  go_wp2_with fail
  refine (two_at u5 (HK.out.ext X4.out)).mono ?_
  rintro e u6 ⟨g6, rfl, hg6, _, hb⟩
  have HG6 := Lib.hid hg6; have Y4 := Lib.hid (X4.out.trans (hb.mono X4.out.size))
  clear hb hg6
  go_wp2_with fail
  refine (check_lit twoT 0 chk_two twoT_toks rfl u6 g6 HG6.out).mono ?_
  rintro e u7 ⟨rfl, hb⟩
  have Z4 := Lib.hid (Y4.out.trans (hb.mono Y4.out.size))
  clear hb
  go_wp2_with fail
  go_ret
  exact ⟨rfl, Z4.out⟩
end Go.Proofs.YtkdkpnidiehdfaaDoor
