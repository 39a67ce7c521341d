import Derived.Test.YtkdkpnidiehdfaaDoorDm
set_option linter.unusedSimpArgs false
set_option linter.unusedVariables false
namespace Go.Proofs.YtkdkpnidiehdfaaDoor
open Go.RowKit

theorem dg_size (l : List UInt8) (h : l.length = 32) : (Tryd.prog.info? 25).map (·.size) = some l.length := by rw [h]; kernel_rfl

set_option maxRecDepth 100000 in
set_option maxHeartbeats 2000000 in
theorem tokens_walk (a b l : List UInt8) (A : Option Addr) (cap : Nat) (w : World) (ha : a.length = 32) (hb : b.length = 32) (hA : Bs w w.heap.size A l) (hA0 : A = none → l = []) (hk : KMem w) :
    Calls Tryd.prog 5 #[dg a, dg b, .slice A l.length cap] w fun e w' => e = .returned (.bool true) ∧ Below w.heap.size w w' := by
  have HA := Lib.hid hA; have HA0 := Lib.hid hA0; have HK := Lib.hid hk; have H1 := Lib.hid ha; have H2 := Lib.hid hb
  have Hs := Lib.hid (sha_length l)
  have Hda : Hid (dg a = .agg (bcells a).toArray) := Lib.hid rfl
  have Hdb : Hid (dg b = .agg (bcells b).toArray) := Lib.hid rfl
  have e1 := fun W => eql_dig a b ha hb W
  have e2 := fun W => eql_dig a (sha l) ha (sha_length l) W
  clear hA hA0 hk ha hb
  by_cases hl : l.length ≤ 20000
  · have HL := Lib.hid (Nat.le_trans hl (by omega : 20000 ≤ 100000000))
    rw [Hda.out, Hdb.out]
    go_enter Tryd.func5, Tryd.ntmps5
    go_upto_region 1 with (fail)
    generalize hw2 : World.alloc (World.alloc _ _) _ = w2
    have Hx : Hid (w2.heap[w.heap.size]? = some (.cells (bcells a).toArray 25 (0, 0))) := Lib.hid (by subst hw2; exact alloc_blk (heap_alloc_new _ _) _)
    have Hy : Hid (w2.heap[w.heap.size + 1]? = some (.cells (bcells b).toArray 25 (0, 0))) := Lib.hid (by subst hw2; exact alloc_new1 _ _ _ _)
    have Hb2 : Hid (Below w.heap.size w w2) := Lib.hid (by subst hw2; exact ((Below.refl _ _).alloc (Nat.le_refl _) _).alloc (by simp) _)
    have HA2 := Lib.hid ((HA.out.below Hb2.out).more Hb2.out.size)
    have HK2 := Lib.hid (KMem.below HK.out Hb2.out HK.out.pos)
    clear hw2
    rw [← Hda.out, ← Hdb.out]
    go_wp2_with fail
    refine (lent_bytes l HL.out A cap w2 HA2.out).mono ?_
    rintro e w3 ⟨g, rfl, hg3, hw3, hb3⟩
    have Hw3 := Lib.hid hw3; have Hb3 := Lib.hid hb3
    clear hw3 hb3
    go_wp2_with fail
    refine (sum_ref l HL.out A cap HA0.out w3 ((HA2.out.below Hb3.out).more Hb3.out.size)).mono ?_
    rintro e w4 ⟨rfl, hb4⟩
    have Hb4 := Lib.hid hb4
    clear hb4
    have Hw4 := Lib.hid ((Hb4.out.block g (lt_blk Hw3.out)).trans Hw3.out)
    have Hds : Hid (dg (sha l) = .agg (bcells (sha l)).toArray) := Lib.hid rfl
    have Hone : Hid ((bcells (sha l)).toArray.all (·.oneCell') = true) := Lib.hid (by
      rw [Array.all_eq_true_iff_forall_mem]; intro x hx; exact bcells_one _ x (by simpa using hx))
    have Hsz : Hid ((bcells (sha l)).toArray.size = 32) := Lib.hid (by simp [bcells, Hs.out])
    rw [Hds.out]
    go_upto_region 5 with (refine wpList_store_row (o := ⟨none, .store 25 (.tmp 8) (.tmp 16), _, _, _, _⟩) rfl _ _ _ rfl w4.heap.size (bcells (sha l)).toArray rfl rfl _ _ (heap_alloc_new _ _) (by rw [Hsz.out]; kernel_rfl) (by rw [Hsz.out]; rfl) Hone.out ?_)
    generalize hw5 : World.setRow _ _ _ = w5
    have Hd5 : Hid (w5.heap[w4.heap.size]? = some (.cells (bcells (sha l)).toArray 25 (0, 0))) := Lib.hid (by subst hw5; exact setRow_heap _ _ _ _ _ _ (heap_alloc_new _ _))
    have Hb5 : Hid (Below w4.heap.size w4 w5) := Lib.hid (by subst hw5; exact below_setRow ((Below.refl _ _).alloc (Nat.le_refl _) _) (Nat.le_refl _) _)
    clear hw5
    simp only [Act.put]
    have Hca : Hid (∀ W, Below w5.heap.size w5 W → W.heap[w.heap.size]? = some (.cells (bcells a).toArray 25 (0, 0))) := Lib.hid (fun W hW => by
      have h1 := lt_blk Hx.out; have h2 := Hb3.out.size; have h3 := Hb4.out.size; have h4 := Hb5.out.size
      rw [hW.block _ (by omega), Hb5.out.block _ (by omega), Hb4.out.block _ (by omega), Hb3.out.block _ h1]; exact Hx.out)
    have Hcb : Hid (∀ W, Below w5.heap.size w5 W → W.heap[w.heap.size + 1]? = some (.cells (bcells b).toArray 25 (0, 0))) := Lib.hid (fun W hW => by
      have h1 := lt_blk Hy.out; have h2 := Hb3.out.size; have h3 := Hb4.out.size; have h4 := Hb5.out.size
      rw [hW.block _ (by omega), Hb5.out.block _ (by omega), Hb4.out.block _ (by omega), Hb3.out.block _ h1]; exact Hy.out)
    refine wp_region_quiet (C := fun W => Below w5.heap.size w5 W) (by kernel_rfl) (by kernel_rfl) (below_drew _) ?_
    iterate 18 (first
      | (refine q_dg rfl _ (.tmp 3) rfl w.heap.size rfl 25 a _ _ Hca.out Tryd.underlying25 rfl (dg_size a H1.out) ?_)
      | (refine q_dg rfl _ (.tmp 4) rfl (w.heap.size + 1) rfl 25 b _ _ Hcb.out Tryd.underlying25 rfl (dg_size b H2.out) ?_)
      | (refine wpQuiet_step (fun K hK => ?_); go_simp; (first
          | (refine ⟨_, fun _ _ => rfl, hK _ ?_⟩)
          | (refine ⟨_, fun W hW => (same_any _ _ (by first | exact H1.out | exact H2.out) (by first | exact H1.out | exact H2.out) W).mono fun e W' ⟨he, hb⟩ => ⟨he, hW.trans (hb.mono hW.size)⟩, hK _ ?_⟩)); clear hK K))
    refine wpQuiet_nil ?_
    intro W1 hW1
    have HW1 := Lib.hid hW1
    clear hW1
    have Hcd : Hid (∀ W, Below w5.heap.size w5 W → W.heap[w4.heap.size]? = some (.cells (bcells (sha l)).toArray 25 (0, 0))) := Lib.hid (fun W hW => by
      rw [hW.block _ (lt_blk Hd5.out)]; exact Hd5.out)
    have Hcg : Hid (∀ W, Below w5.heap.size w5 W → W.heap[g]? = some (.cells (bcells (l ++ marks l.length)).toArray 5 (0, 0))) := Lib.hid (fun W hW => by
      have h1 := lt_blk Hw4.out; have h4 := Hb5.out.size
      rw [hW.block _ (by omega), Hb5.out.block _ h1]; exact Hw4.out)
    have Hbw : Hid (Below w.heap.size w w5) := Lib.hid (Hb2.out.trans ((Hb3.out.mono Hb2.out.size).trans ((Hb4.out.mono (Nat.le_trans Hb2.out.size Hb3.out.size)).trans (Hb5.out.mono (Nat.le_trans Hb2.out.size (Nat.le_trans Hb3.out.size Hb4.out.size))))))
    have HKw : Hid (∀ W, Below w5.heap.size w5 W → KMem W) := Lib.hid (fun W hW => KMem.below (KMem.below HK.out Hbw.out HK.out.pos) hW (by have := HK.out.pos; have := Hbw.out.size; omega))
    have Hta : Hid (∀ W, Below w5.heap.size w5 W → Calls Tryd.prog 24 #[.slice (some ⟨g, 0, none⟩) l.length (l.length + 3), dg a] W fun e W' => e = .returned (.bool (decide (a = sha l))) ∧ Below w5.heap.size w5 W') := Lib.hid (fun W hW =>
      (token_any l HL.out _ _ a H1.out W (Bs.pre (Bs.blk (Hcg.out W hW))) (HKw.out W hW)).mono fun e W' ⟨he, hb⟩ => ⟨by rw [he, decide_eq_decide.2 eq_comm], hW.trans (hb.mono hW.size)⟩)
    have Htd : Hid (∀ W, Below w5.heap.size w5 W → Calls Tryd.prog 24 #[.slice (some ⟨g, 0, none⟩) l.length (l.length + 3), dg (sha l)] W fun e W' => e = .returned (.bool true) ∧ Below w5.heap.size w5 W') := Lib.hid (fun W hW =>
      (token_any l HL.out _ _ (sha l) Hs.out W (Bs.pre (Bs.blk (Hcg.out W hW))) (HKw.out W hW)).mono fun e W' ⟨he, hb⟩ => ⟨by rw [he]; simp, hW.trans (hb.mono hW.size)⟩)
    have Hkk : Hid (∀ W, Below w5.heap.size w5 W → Calls Tryd.prog 18 #[.slice (some ⟨g, 0, none⟩) l.length (l.length + 3), .slice A l.length cap] W fun e W' => e = .returned (.bool true) ∧ Below w5.heap.size w5 W') := Lib.hid (fun W hW =>
      (kept_bytes l HL.out A cap g W ((HA.out.below (Hbw.out.trans (hW.mono Hbw.out.size))).more (Nat.le_trans Hbw.out.size hW.size)) (Hcg.out W hW)).mono fun e W' ⟨he, hb⟩ => ⟨he, hW.trans (hb.mono hW.size)⟩)
    go_upto_region 6 with (fail)
    refine wp_region_quiet (C := fun W => Below w5.heap.size w5 W) (by kernel_rfl) (by kernel_rfl) HW1.out.drew ?_
    iterate 21 (first
      | (refine q_dg rfl _ (.tmp 3) rfl w.heap.size rfl 25 a _ _ Hca.out Tryd.underlying25 rfl (dg_size a H1.out) ?_)
      | (refine q_dg rfl _ (.tmp 8) rfl w4.heap.size rfl 25 (sha l) _ _ Hcd.out Tryd.underlying25 rfl (dg_size (sha l) Hs.out) ?_)
      | (refine wpQuiet_step (fun K hK => ?_); go_simp; (first
          | (refine ⟨_, fun _ _ => rfl, hK _ ?_⟩)
          | (refine ⟨_, Hta.out, hK _ ?_⟩) | (refine ⟨_, Htd.out, hK _ ?_⟩) | (refine ⟨_, Hkk.out, hK _ ?_⟩)); clear hK K))
    refine wpQuiet_nil ?_
    intro W2 hW2
    have HW2 := Lib.hid hW2
    clear hW2
    go_wp2_with fail
    go_ret
    exact ⟨rfl, Hbw.out.trans (HW2.out.mono Hbw.out.size)⟩
  · rw [Hda.out, Hdb.out]
    go_enter Tryd.func5, Tryd.ntmps5
    go_wp2_with fail
    go_ret
    exact ⟨rfl, ((Below.refl _ _).alloc (Nat.le_refl _) _).alloc (by simp) _⟩
end Go.Proofs.YtkdkpnidiehdfaaDoor
