import Derived.Test.YtkdkpnidiehdfaaDoorLe
import Derived.Test.YtkdkpnidiehdfaaDoorTex2
import Derived.Test.YtkdkpnidiehdfaaDoorZs
set_option linter.unusedSimpArgs false
set_option linter.unusedVariables false
namespace Go.Proofs.YtkdkpnidiehdfaaDoor
open Go.RowKit

theorem Bs.drop {w : World} {B : Nat} {A : Option Addr} {l : List UInt8} (h : Bs w B A l) (n : Nat) : Bs w B (A.map fun x => x.add n) (l.drop n) := fun j hj => by
  obtain ⟨b, off, rfl, hb, hc⟩ := h (n + j) (by simp at hj; omega)
  exact ⟨b, off + n, by simp [Addr.add], hb, by rw [Nat.add_assoc, hc, getD_drop]⟩
theorem Bs.take {w : World} {B : Nat} {A : Option Addr} {l : List UInt8} (h : Bs w B A l) (n : Nat) : Bs w B A (l.take n) := fun j hj => by
  have hj' : j < n ∧ j < l.length := by simp at hj; omega
  obtain ⟨b, off, e, hb, hc⟩ := h j hj'.2
  exact ⟨b, off, e, hb, by rw [hc, take_getD _ _ _ _ hj'.1]⟩

/-- what is left of l: its address, its room. -/
def Rest (w : World) (B : Nat) (l : List UInt8) (t : Nat) (v : Value) : Prop := t ≤ l.length ∧ ∃ A cap, v = .slice A (l.length - t) cap ∧ l.length - t ≤ cap ∧ Bs w B A (l.drop t) ∧ (A = none → l.drop t = [])

set_option maxRecDepth 100000 in
set_option maxHeartbeats 8000000 in
theorem pieces_walk (l : List UInt8) (A : Option Addr) (cap : Nat) (zs : List Int) (A1 : Option Addr) (cap1 : Nat) (w : World) (hA : Bs w w.heap.size A l) (hA0 : A = none → l = []) (hcap : l.length ≤ cap) (hz : Zs w w.heap.size A1 zs) (hk : KMem w) :
    Calls Tryd.prog 8 #[.slice A l.length cap, .slice A1 zs.length cap1] w fun e w' => e = .returned (.bool true) ∧ Below w.heap.size w w' := by
  have HA := Lib.hid hA; have HA0 := Lib.hid hA0; have HZ := Lib.hid hz; have HK := Lib.hid hk
  have Hrp : Hid (0 < w.heap.size) := Lib.hid (by have := HK.out.pos; omega)
  clear hA hA0 hz hk
  go_enter Tryd.func8, Tryd.ntmps8
  go_wp2_with fail
  refine (known_walk w HK.out).mono ?_
  rintro e w1 ⟨rfl, hb1⟩
  have Hb1 := Lib.hid hb1
  have HK1 := Lib.hid (KMem.below HK.out hb1 HK.out.pos)
  clear hb1
  by_cases hl : l.length ≤ 20000
  · by_cases hc : zs.length ≤ 100
    · go_wp2_with fail
      refine (new_any w1).mono ?_
      rintro e w2 ⟨g, rfl, hg2, hc2, hb2⟩
      have Hg2 : Hid (w.heap.size ≤ g) := Lib.hid (Nat.le_trans Hb1.out.size hg2)
      have Hc2 := Lib.hid hc2
      have HB2 := Lib.hid (Hb1.out.trans (hb2.mono Hb1.out.size))
      have HK2 := Lib.hid (KMem.below HK1.out hb2 HK1.out.pos)
      have Hgk : Hid (0 < g) := Lib.hid (by have := Hrp.out; have := Hg2.out; omega)
      clear hg2 hc2 hb2
      go_wp2_with fail
      go_loopw [7, 8] (fun rest i wr => ∃ (k t : Nat), k ≤ zs.length ∧ i = .int .i64 k ∧ Rest wr w.heap.size l t rest ∧ wr.heap[g]? = some (.cells (HS.init.take_ (l.take t)).cells 35 (0, 0)) ∧ KMem wr ∧ Below w.heap.size w wr) (fun _ i _ => zs.length - (intOf i).toNat)
      case atStart => exact ⟨0, 0, by omega, rfl, ⟨by omega, _, _, rfl, hcap, HA.out.below HB2.out, HA0.out⟩, Hc2.out, HK2.out, HB2.out⟩
      case round =>
        obtain ⟨k, t, hk, rfl, ⟨ht, Ar, cr, rfl, hcr, hbr, hnr⟩, hg, hkm, hb⟩ := hrel
        have Hg := Lib.hid hg; have Hkm := Lib.hid hkm; have Hb := Lib.hid hb; have Hbr := Lib.hid hbr; have Hnr := Lib.hid hnr
        clear hg hkm hb hbr hnr
        by_cases hlt : k < zs.length
        · obtain ⟨b, off, rfl, hbl, hc, hz1, hz2⟩ := HZ.out k hlt
          have hc1 := (Hb.out.cell (p := ⟨b, off + k, none⟩) hbl).trans hc
          clear hc
          generalize zs.getD k 0 = z at *
          by_cases hneg : z < 0
          · have d3 : decide (z < (0 : Int)) = true := by simpa using hneg
            go_wp2_with fail
            refine ⟨⟨k + 1, t, by omega, by go_num, ⟨ht, _, _, rfl, hcr, Hbr.out, Hnr.out⟩, Hg.out, Hkm.out, Hb.out⟩, ?_⟩
            simp [intOf]; omega
          · have d3 : decide (z < (0 : Int)) = false := by simpa using hneg
            obtain ⟨n, rfl⟩ : ∃ n : Nat, z = n := ⟨z.toNat, by omega⟩
            by_cases hbig : ((l.length - t : Nat) : Int) < n
            · have d4 : decide (((l.length - t : Nat) : Int) < (n : Int)) = true := by simpa using hbig
              go_wp2_with fail
              refine ⟨⟨k + 1, t, by omega, by go_num, ⟨ht, _, _, rfl, hcr, Hbr.out, Hnr.out⟩, Hg.out, Hkm.out, Hb.out⟩, ?_⟩
              simp [intOf]; omega
            · have d4 : decide (((l.length - t : Nat) : Int) < (n : Int)) = false := by simpa using hbig
              have hn : n ≤ l.length - t := by omega
              have Hl1 : Hid (((l.drop t).take n).length = n) := Lib.hid (by simp; omega)
              have Ht1 : Hid ((HS.init.take_ (l.take t)).take_ ((l.drop t).take n) = HS.init.take_ (l.take (t + n))) := Lib.hid (by rw [← take_app, List.take_add])
              have Hq1 : Hid ((HS.init.take_ (l.take t)).n + ((l.drop t).take n).length ≤ 1000000000000) := Lib.hid (by rw [take_n, Hl1.out]; simp [HS.init]; omega)
              have Hw64 : Hid ((HS.init.take_ (l.take t)).wait.length = 64) := Lib.hid (by rw [take_wait]; rfl)
              have Hbn : Hid (Bn wr g Ar ((l.drop t).take n)) := Lib.hid (Bs.bn (Bs.take Hbr.out n) Hg2.out (Nat.le_of_lt (lt_blk Hg.out)))
              generalize (l.drop t).take n = l1 at *
              generalize HS.init.take_ (l.take t) = h0 at *
              obtain rfl : l1.length = n := Hl1.out
              go_wp2_with fail
              refine (write_any h0 Hw64.out l1 Hq1.out g Ar cr wr Hg.out Hbn.out Hkm.out Hgk.out).mono ?_
              rintro e w5 ⟨rfl, hg5, hgr5⟩
              rw [Ht1.out] at hg5
              have Hg5 := Lib.hid hg5
              have Hb5 : Hid (Below w.heap.size w w5) := Lib.hid (Hb.out.grown hgr5 Hb.out.size (by intro k e; injection e with e; have := Hg2.out; omega))
              have Hk5 : Hid (KMem w5) := Lib.hid (KMem.grown Hkm.out hgr5 (by intro g' e; injection e with e; have := Hgk.out; omega))
              have Hbr5 : Hid (Bs w5 w.heap.size Ar (l.drop t)) := Lib.hid (Hbr.out.grown hgr5 Hb.out.size (by intro k e; injection e with e; have := Hg2.out; omega))
              clear hg5 hgr5
              have hle1 : (l1.length : Int) ≤ ((l.length - t : Nat) : Int) := by omega
              by_cases hcc : cr = l1.length
              · subst hcc
                go_wp2_with fail
                refine ⟨⟨k + 1, t + l1.length, by omega, by go_num, ⟨by omega, Ar, 0, ?_, by omega, ?_, ?_⟩, Hg5.out, Hk5.out, Hb5.out⟩, ?_⟩
                · rw [show l.length - (t + l1.length) = 0 by omega]
                · rw [List.drop_of_length_le (by omega)]; intro j hj; simp at hj
                · intro _; exact List.drop_of_length_le (by omega)
                · simp [intOf]; omega
              · go_wp2_with fail
                refine ⟨⟨k + 1, t + l1.length, by omega, by go_num, ⟨by omega, Ar.map (fun x => x.add l1.length), cr - l1.length, ?_, by omega, ?_, ?_⟩, Hg5.out, Hk5.out, Hb5.out⟩, ?_⟩
                · rw [Nat.sub_add_eq]
                · rw [← List.drop_drop]; exact Bs.drop Hbr5.out _
                · intro hn0
                  rw [← List.drop_drop, Hnr.out (by cases Ar <;> simp_all)]; simp
                · simp [intOf]; omega
        · obtain rfl : k = zs.length := by omega
          have Hl1 : Hid ((l.drop t).length = l.length - t) := Lib.hid (by simp)
          have Ht1 : Hid ((HS.init.take_ (l.take t)).take_ (l.drop t) = HS.init.take_ l) := Lib.hid (by rw [← take_app, List.take_append_drop])
          have Hq1 : Hid ((HS.init.take_ (l.take t)).n + (l.drop t).length ≤ 1000000000000) := Lib.hid (by rw [take_n, Hl1.out]; simp [HS.init]; omega)
          have Hw64 : Hid ((HS.init.take_ (l.take t)).wait.length = 64) := Lib.hid (by rw [take_wait]; rfl)
          have Hbn : Hid (Bn wr g Ar (l.drop t)) := Lib.hid (Hbr.out.bn Hg2.out (Nat.le_of_lt (lt_blk Hg.out)))
          generalize l.drop t = l1 at *
          generalize HS.init.take_ (l.take t) = h0 at *
          rw [← Hl1.out]
          go_wp2_with fail
          refine (write_any h0 Hw64.out l1 Hq1.out g Ar cr wr Hg.out Hbn.out Hkm.out Hgk.out).mono ?_
          rintro e w5 ⟨rfl, hg5, hgr5⟩
          rw [Ht1.out] at hg5
          have Hg5 := Lib.hid hg5
          have Hb5 : Hid (Below w.heap.size w w5) := Lib.hid (Hb.out.grown hgr5 Hb.out.size (by intro k e; injection e with e; have := Hg2.out; omega))
          have Hk5 : Hid (KMem w5) := Lib.hid (KMem.grown Hkm.out hgr5 (by intro g' e; injection e with e; have := Hgk.out; omega))
          have HA5 : Hid (Bs w5 w5.heap.size A l) := Lib.hid ((HA.out.below Hb5.out).more Hb5.out.size)
          have Hl100 : Hid (l.length ≤ 100000000) := Lib.hid (by omega)
          clear hg5 hgr5
          go_wp2_with fail
          refine (dig_sum l Hl100.out A cap w5 HA5.out Hk5.out).mono ?_
          rintro e w6 ⟨rfl, hb6⟩
          rw [finish_sha]
          have Hb6 := Lib.hid hb6
          clear hb6
          have Hd5 : Hid (dg (sha l) = .agg (bcells (sha l)).toArray) := Lib.hid rfl
          have Ho5 : Hid ((bcells (sha l)).toArray.all (·.oneCell') = true) := Lib.hid (by
            rw [Array.all_eq_true_iff_forall_mem]; intro x hx; exact bcells_one _ x (by simpa using hx))
          have Hz5 : Hid ((bcells (sha l)).toArray.size = 32) := Lib.hid (by simp [bcells, sha_length])
          rw [Hd5.out]
          go_upto_region 19 with (refine wpList_store_row (o := ⟨none, .store 25 (.tmp 10) (.tmp 59), _, _, _, _⟩) rfl _ _ _ rfl w6.heap.size (bcells (sha l)).toArray rfl rfl _ _ (heap_alloc_new _ _) (by rw [Hz5.out]; kernel_rfl) (by rw [Hz5.out]; rfl) Ho5.out ?_)
          generalize hw7 : World.setRow _ _ _ = w7
          have Hc7 : Hid (w7.heap[w6.heap.size]? = some (.cells (bcells (sha l)).toArray 25 (0, 0))) := Lib.hid (by subst hw7; exact setRow_heap _ _ _ _ _ _ (heap_alloc_new _ _))
          have Hb7 : Hid (Below w6.heap.size w6 w7) := Lib.hid (by subst hw7; exact below_setRow ((Below.refl _ _).alloc (Nat.le_refl _) _) (Nat.le_refl _) _)
          clear hw7
          try simp only [Act.put]
          have Hft : Hid ((str (text (sha l))).data.toList = text (sha l)) := Lib.hid (by simp [str])
          have Hpt : Hid (parseD (text (sha l)) = sha l ∧ parseE (text (sha l)) = 0) := Lib.hid (parse_text _ (sha_length _))
          go_wp2_with (refine wpList_load_row (o := ⟨some 61, .load 25 (.tmp 10), _, _, _, _⟩) rfl _ _ rfl w6.heap.size rfl _ (bcells (sha l)).toArray (0, 0) _ Hc7.out Tryd.underlying25 rfl (by rw [Hz5.out]; kernel_rfl) ?_; rw [← Hd5.out])
          refine (text_any (sha l) (sha_length _) w7).mono ?_
          rintro e w8 ⟨rfl, hb8⟩
          have Hb8 := Lib.hid hb8
          clear hb8
          go_wp2_with fail
          refine (parse_any (str (text (sha l))) w8).mono ?_
          rintro e w9 ⟨rfl, hb9⟩
          rw [Hft.out, Hpt.out.1, Hpt.out.2]
          have Hb9 := Lib.hid hb9
          clear hb9
          rw [Hd5.out]
          go_upto_region 20 with (refine wpList_store_row (o := ⟨none, .store 25 (.tmp 11) (.tmp 64), _, _, _, _⟩) rfl _ _ _ rfl w9.heap.size (bcells (sha l)).toArray rfl rfl _ _ (heap_alloc_new _ _) (by rw [Hz5.out]; kernel_rfl) (by rw [Hz5.out]; rfl) Ho5.out ?_)
          generalize hwa : World.setRow _ _ _ = wa
          have Hca : Hid (wa.heap[w9.heap.size]? = some (.cells (bcells (sha l)).toArray 25 (0, 0))) := Lib.hid (by subst hwa; exact setRow_heap _ _ _ _ _ _ (heap_alloc_new _ _))
          have Hba : Hid (Below w9.heap.size w9 wa) := Lib.hid (by subst hwa; exact below_setRow ((Below.refl _ _).alloc (Nat.le_refl _) _) (Nat.le_refl _) _)
          clear hwa
          try simp only [Act.put]
          have HB5a : Hid (Below w5.heap.size w5 wa) := Lib.hid (by
            have s6 := Hb6.out.size; have s7 := Hb7.out.size; have s8 := Hb8.out.size; have s9 := Hb9.out.size
            exact Hb6.out.trans ((Hb7.out.mono (by omega)).trans ((Hb8.out.mono (by omega)).trans ((Hb9.out.mono (by omega)).trans (Hba.out.mono (by omega))))))
          have HBw : Hid (Below w.heap.size w wa) := Lib.hid (Hb5.out.trans (HB5a.out.mono Hb5.out.size))
          have Hga : Hid (∀ W, Below wa.heap.size wa W → W.heap[g]? = some (.cells (HS.init.take_ l).cells 35 (0, 0))) := Lib.hid (fun W hW => by
            have h1 := lt_blk Hg5.out; have s5 := HB5a.out.size
            rw [hW.block _ (by omega), HB5a.out.block _ (by omega)]; exact Hg5.out)
          have Hka : Hid (∀ W, Below wa.heap.size wa W → KMem W) := Lib.hid (fun W hW => KMem.below (KMem.below Hk5.out HB5a.out Hk5.out.pos) hW (by have := Hk5.out.pos; have := HB5a.out.size; omega))
          have Hk7 : Hid (∀ W, Below wa.heap.size wa W → W.heap[w6.heap.size]? = some (.cells (bcells (sha l)).toArray 25 (0, 0))) := Lib.hid (fun W hW => by
            have h1 := lt_blk Hc7.out
            have s8 := Hb8.out.size; have s9 := Hb9.out.size; have sa := Hba.out.size
            rw [hW.block _ (by omega), Hba.out.block _ (by omega), Hb9.out.block _ (by omega), Hb8.out.block _ (by omega)]; exact Hc7.out)
          have Hk9 : Hid (∀ W, Below wa.heap.size wa W → W.heap[w9.heap.size]? = some (.cells (bcells (sha l)).toArray 25 (0, 0))) := Lib.hid (fun W hW => by
            rw [hW.block _ (lt_blk Hca.out)]; exact Hca.out)
          have Hwi : Hid ((HS.init.take_ l).wait.length = 64) := Lib.hid (by rw [take_wait]; rfl)
          have Hni : Hid ((HS.init.take_ l).n = l.length) := Lib.hid (by rw [take_n]; exact Nat.zero_add _)
          have Hfi : Hid ((HS.init.take_ l).finish = sha l) := Lib.hid (finish_sha _)
          generalize HS.init.take_ l = hf at *
          have Hlg : Hid ((text (sha l)).length = 64) := Lib.hid (by rw [text_length, sha_length])
          have Hcs : Hid (∀ W, Below wa.heap.size wa W → Calls Tryd.prog 20 #[.pointer (some ⟨g, 0, none⟩)] W fun e W' => e = .returned (dg (sha l)) ∧ Below wa.heap.size wa W') := Lib.hid (fun W hW =>
            (sum_dig hf Hwi.out (by rw [Hni.out]; have := Hl100.out; omega) g W (Hga.out W hW) (Hka.out W hW)).mono fun e W' ⟨he, hb⟩ => ⟨by rw [he, Hfi.out], hW.trans (hb.mono hW.size)⟩)
          have Hcl : Hid (∀ W, Below wa.heap.size wa W → Calls Tryd.prog 21 #[.pointer (some ⟨g, 0, none⟩)] W fun e W' => e = .returned (.int .i64 l.length) ∧ Below wa.heap.size wa W') := Lib.hid (fun W hW =>
            (len_any g hf Hwi.out W (Hga.out W hW)).mono fun e W' ⟨he, hb⟩ => ⟨by rw [he, Hni.out], hb ▸ hW⟩)
          have Hct : Hid (∀ W, Below wa.heap.size wa W → Calls Tryd.prog 34 #[dg (sha l)] W fun e W' => e = .returned (.string (str (text (sha l)))) ∧ Below wa.heap.size wa W') := Lib.hid (fun W hW =>
            (text_any (sha l) (sha_length _) W).mono fun e W' ⟨he, hb⟩ => ⟨he, hW.trans (hb.mono hW.size)⟩)
          have e1 : ∀ W, (binOp .eql 25 (dg (sha l)) (dg (sha l))).run Tryd.prog W = .ok (.bool true) W := fun W => by
            have := eql_dig (sha l) (sha l) (sha_length _) (sha_length _) W; simpa using this
          have Hzj : Hid ((Tryd.prog.info? 25).map (·.size) = some (sha l).length) := Lib.hid (dg_size _ (sha_length _))
          have Hss : Hid ((str (text (sha l))).size = 64) := Lib.hid (by rw [str_size, Hlg.out])
          have e2 := Hss.out
          refine wp_region_quiet (C := fun W => Below wa.heap.size wa W) (by kernel_rfl) (by kernel_rfl) (below_drew _) ?_
          iterate 30 (first
            | (refine q_dg rfl _ (.tmp 10) rfl w6.heap.size rfl 25 (sha l) _ _ Hk7.out Tryd.underlying25 rfl Hzj.out ?_)
            | (refine q_dg rfl _ (.tmp 11) rfl w9.heap.size rfl 25 (sha l) _ _ Hk9.out Tryd.underlying25 rfl Hzj.out ?_)
            | (refine wpQuiet_step (fun K hK => ?_); go_simp; (first
                | (refine ⟨_, fun _ _ => rfl, hK _ ?_⟩)
                | (refine ⟨_, Hcs.out, hK _ ?_⟩) | (refine ⟨_, Hcl.out, hK _ ?_⟩) | (refine ⟨_, Hct.out, hK _ ?_⟩)); clear hK K))
          refine wpQuiet_nil ?_
          intro W2 hW2
          have HW2 := Lib.hid hW2
          clear hW2
          go_wp2_with fail
          go_ret
          exact ⟨rfl, HBw.out.trans (HW2.out.mono HBw.out.size)⟩
    · have d1 : decide ((20000 : Int) < (l.length : Int)) = false := by simp; omega
      go_wp2_with fail
      go_ret
      exact ⟨rfl, Hb1.out⟩
  · have d1 : decide ((20000 : Int) < (l.length : Int)) = true := by simp; omega
    go_wp2_with fail
    go_ret
    exact ⟨rfl, Hb1.out⟩
end Go.Proofs.YtkdkpnidiehdfaaDoor
