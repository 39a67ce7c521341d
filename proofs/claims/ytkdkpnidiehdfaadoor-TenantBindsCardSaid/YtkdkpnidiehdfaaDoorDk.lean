import Derived.Test.YtkdkpnidiehdfaaDoorDj
set_option linter.unusedSimpArgs false
set_option linter.unusedVariables false
namespace Go.Proofs.YtkdkpnidiehdfaaDoor
open Go.RowKit

theorem KMem.below {w w' : World} {B : Nat} (h : KMem w) (hb : Below B w w') (hB : 0 < B) : KMem w' := fun t ht => (hb.cell (p := ⟨0, t, none⟩) hB).trans (h t ht)

set_option maxRecDepth 100000 in
set_option maxHeartbeats 1000000 in
theorem dig_sum (l : List UInt8) (hl : l.length ≤ 100000000) (A : Option Addr) (cap : Nat) (w : World) (hA : Bs w w.heap.size A l) (hk : KMem w) :
    Calls Tryd.prog 16 #[.slice A l.length cap] w fun e w' => e = .returned (dg (HS.init.take_ l).finish) ∧ Below w.heap.size w w' := by
  have HA := Lib.hid hA
  have HK := Lib.hid hk
  have HL := Lib.hid hl
  clear hA hk hl
  go_enter Tryd.func16, Tryd.ntmps16
  go_upto_region 1 with (fail)
  generalize hz : #[Value.int IntKind.u8 0, _, _, _, _, _, _, _, _, _, _, _, _, _, _, _, _, _, _, _, _, _, _, _, _, _, _, _, _, _, _, _] = zs
  have hzs : zs.size = 32 := by rw [← hz]; rfl
  have Hzs := Lib.hid hzs
  clear hz hzs
  generalize hw0 : w.alloc (.cells zs 25) = w0
  have Hres : Hid (w0.heap[w.heap.size]? = some (.cells zs 25 (0, 0))) := Lib.hid (by rw [← hw0]; exact heap_alloc_new _ _)
  have HB0 : Hid (Below w.heap.size w w0) := Lib.hid (by rw [← hw0]; exact (Below.refl _ _).alloc (Nat.le_refl _) _)
  have Hs0 : Hid (w0.heap.size = w.heap.size + 1) := Lib.hid (by rw [← hw0]; simp)
  have HA0 := Lib.hid (HA.out.below HB0.out)
  have HK0 := Lib.hid (KMem.below HK.out HB0.out HK.out.pos)
  generalize hr : w.heap.size = r
  rw [hr] at Hres HB0 Hs0 HA0
  have Hr := Lib.hid hr
  clear hr hw0
  have Hrp : Hid (0 < r) := Lib.hid (by have := HK.out.pos; have := Hr.out; omega)
  have H64 : Hid (HS.init.wait.length = 64) := Lib.hid (by simp [HS.init])
  have Hn0 : Hid (HS.init.n = 0) := Lib.hid rfl
  go_wp2_with fail
  refine (new_any w0).mono ?_
  rintro e w1 ⟨g, rfl, hg1, hc1, hb1⟩
  have Hn0 : Hid (HS.init.n + l.length ≤ 1000000000000) := Lib.hid (by have := HL.out; show 0 + l.length ≤ _; omega)
  have Hn1 : Hid ((HS.init.take_ l).n ≤ 1000000000) := Lib.hid (by rw [take_n]; have := HL.out; show 0 + l.length ≤ _; omega)
  have Hw1 : Hid ((HS.init.take_ l).wait.length = 64) := Lib.hid (by rw [take_wait]; exact H64.out)
  have HA1 : Hid (Bs w1 g A l) := Lib.hid ((HA0.out.below (hb1.mono (by have := Hs0.out; omega))).more (by have := Hs0.out; omega))
  have HK1 : Hid (KMem w1) := Lib.hid (KMem.below HK0.out hb1 HK0.out.pos)
  have Hg0 : Hid (0 < g) := Lib.hid (by have := Hrp.out; have := Hs0.out; omega)
  have Hrg : Hid (r < g) := Lib.hid (by have := Hs0.out; omega)
  have Hc1 := Lib.hid hc1
  have Hb1 := Lib.hid hb1
  clear hc1 hb1 hg1
  generalize hfin : HS.init.take_ l = hf at Hn1 Hw1
  have Hfin := Lib.hid hfin
  clear hfin
  go_wp2_with fail
  refine (write_any HS.init H64.out l Hn0.out g A cap w1 Hc1.out (HA1.out.bn (Nat.le_refl _) (Nat.le_of_lt (lt_blk Hc1.out))) HK1.out Hg0.out).mono ?_
  rintro e w2 ⟨rfl, hc2, hgr2⟩
  rw [Hfin.out] at hc2
  have Hc2 := Lib.hid hc2
  have HK2 := Lib.hid (KMem.grown HK1.out hgr2 (by intro g' e; injection e with e; have := Hg0.out; omega))
  have Hgr2 := Lib.hid hgr2
  clear hc2 hgr2
  go_wp2_with fail
  refine (sum_dig hf Hw1.out Hn1.out g w2 Hc2.out HK2.out).mono ?_
  rintro e w3 ⟨rfl, hb3⟩
  have Hcr : Hid (w3.heap[r]? = some (.cells zs 25 (0, 0))) := Lib.hid (by
    have h1 := Hrg.out
    have h2 := Hs0.out
    have h3 := Hb1.out.size
    have h4 := Hgr2.out.size
    rw [hb3.block r (by omega), Hgr2.out.block r (by omega) (by intro e; injection e with e; omega), Hb1.out.block r (by omega)]; exact Hres.out)
  have Hfb : Hid (Below r w w3) := Lib.hid (by
    have h1 := Hrg.out
    have h2 := Hs0.out
    have h3 := Hb1.out.size
    have h4 := Hgr2.out.size
    exact HB0.out.trans ((Hb1.out.mono (by omega)).trans (((Below.refl r w1).grown Hgr2.out (by omega) (by intro k e; injection e with e; omega)).trans (hb3.mono (by omega)))))
  have Hsl : Hid ((bcells hf.finish).toArray.size = 32) := Lib.hid (by simp [bcells, HS.finish, dbytes_length])
  have Hone : Hid ((bcells hf.finish).toArray.all (·.oneCell') = true) := Lib.hid (by
    rw [Array.all_eq_true_iff_forall_mem]; intro x hx; exact bcells_one _ x (by simpa using hx))
  have Hdg : Hid (dg hf.finish = .agg (bcells hf.finish).toArray) := Lib.hid rfl
  rw [Hdg.out]
  generalize (bcells hf.finish).toArray = sl at Hsl Hone Hdg
  clear hb3
  go_wp2_with (refine wpList_store_row (o := ⟨none, .store 25 (.tmp 2) (.tmp 9), _, _, _, _⟩) rfl _ _ _ rfl r sl rfl rfl _ zs Hcr.out (by rw [Hsl.out]; kernel_rfl) (by rw [Hsl.out, Hzs.out]) Hone.out ?_)
  refine bodyPost_ret (results_cell_row rfl _ _ r 25 sl (0, 0) _ rfl (setRow_heap _ _ _ sl _ (0, 0) Hcr.out) Tryd.underlying25 rfl (by rw [Hsl.out]; kernel_rfl)) rfl ⟨by rw [Hfin.out, Hdg.out], ?_⟩
  rw [Hr.out]
  exact below_setRow Hfb.out (Nat.le_refl _) _
end Go.Proofs.YtkdkpnidiehdfaaDoor
