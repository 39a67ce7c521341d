import Derived.Test.YtkdkpnidiehdfaaDoorJor
import Derived.Test.YtkdkpnidiehdfaaDoorKq
import Derived.Test.YtkdkpnidiehdfaaDoorLc
set_option linter.unusedSimpArgs false
set_option linter.unusedVariables false
namespace Go.Proofs.YtkdkpnidiehdfaaDoor
open Go.RowKit

def sumlen (ls : List (List UInt8)) : Nat := (ls.map List.length).sum
theorem sumlen_take (ls : List (List UInt8)) (k : Nat) (h : k < ls.length) : sumlen (ls.take (k + 1)) = sumlen (ls.take k) + (ls.getD k []).length := by rw [take_snoc' ls k h]; simp [sumlen]
theorem joined_len (ls : List (List UInt8)) : (joined ls).length = sumlen ls + 8 * ls.length := by
  induction ls with
  | nil => rfl
  | cons l ls ih =>
    have e : joined (l :: ls) = (eight l.length ++ l) ++ joined ls := by simp [joined]
    rw [e, List.length_append, ih]; simp [eight_len, sumlen]; omega
theorem sumlen_mem (ls : List (List UInt8)) (l : List UInt8) (h : l ∈ ls) : l.length ≤ sumlen ls := by
  induction ls with
  | nil => simp at h
  | cons a ls ih =>
    rcases List.mem_cons.1 h with rfl | h
    · simp [sumlen]
    · have := ih h; simp [sumlen] at this ⊢; omega
theorem parseD_length (l : List UInt8) : (parseD l).length = 32 := by unfold parseD; split <;> simp [plist_length]
theorem lent_ls {w : World} {B B' : Nat} {A : Option Addr} {vs : List Value} {ls : List (List UInt8)} (h : Rd w B A vs) (hl : Lent w B' vs ls) (hB : B ≤ w.heap.size) : Ls w w.heap.size A ls := fun i hi => by
  obtain ⟨g, h1, h2, h3⟩ := hl.2 i hi
  obtain ⟨b, off, e, hb, hc⟩ := h i _ h1
  exact ⟨b, off, e, by omega, _, _, hc, Bs.pre (Bs.blk h3), fun h => by cases h⟩

set_option maxRecDepth 100000 in
set_option maxHeartbeats 4000000 in
theorem texts_walk (ls : List (List UInt8)) (A : Option Addr) (cap : Nat) (d : List UInt8) (s : ByteArray) (w : World) (hA : Ls w w.heap.size A ls) (hn : ls.length ≤ 140737488351232 ∧ ∀ l ∈ ls, l.length ≤ 140737488351232) (hd : d.length = 32) (hs : s.size ≤ maxLen) (hk : KMem w) :
    Calls Tryd.prog 7 #[.slice A ls.length cap, dg d, .string s] w fun e w' => e = .returned (.bool true) ∧ Below w.heap.size w w' := by
  have HA := Lib.hid hA; have HK := Lib.hid hk; have H1 := Lib.hid hd; have HN := Lib.hid hn.2
  have hn := hn.1
  clear hA hk hs
  have Hdd : Hid (dg d = .agg (bcells d).toArray) := Lib.hid rfl
  clear hd
  rw [Hdd.out]
  go_enter Tryd.func7, Tryd.ntmps7
  go_upto_region 1 with (fail)
  generalize hw2 : World.alloc _ _ = w2
  have Hx : Hid (w2.heap[w.heap.size]? = some (.cells (bcells d).toArray 25 (0, 0))) := Lib.hid (by subst hw2; exact heap_alloc_new _ _)
  have Hb2 : Hid (Below w.heap.size w w2) := Lib.hid (by subst hw2; exact (Below.refl _ _).alloc (Nat.le_refl _) _)
  have HA2 := Lib.hid ((HA.out.below Hb2.out).more Hb2.out.size)
  have HK2 := Lib.hid (KMem.below HK.out Hb2.out HK.out.pos)
  clear hw2
  rw [← Hdd.out]
  go_wp2_with fail
  go_loop [7, 8] (fun n i => ∃ (k : Nat), k ≤ ls.length ∧ i = .int .i64 k ∧ n = .int .i64 (sumlen (ls.take k) : Nat) ∧ sumlen (ls.take k) ≤ 20000) (fun _ i => ls.length - (intOf i).toNat)
  case atStart => exact ⟨0, by omega, rfl, rfl, by simp [sumlen]⟩
  case round =>
    obtain ⟨k, hk, rfl, rfl, hsu⟩ := hrel
    by_cases hlt : k < ls.length
    · obtain ⟨b, off, rfl, hbl, Ai, ci, hc, _, _⟩ := HA2.out k hlt
      have hst := sumlen_take ls k hlt
      have hll := HN.out (ls.getD k []) (by rw [List.getD_eq_getElem?_getD, List.getElem?_eq_getElem hlt]; simp)
      generalize (ls.getD k []).length = m at *
      have Hst := Lib.hid hst
      clear hst
      generalize sumlen (ls.take k) = n0 at *
      by_cases hbig : n0 + m ≤ 20000
      · go_wp2_with fail
        go_round
        case rel => exact ⟨k + 1, by omega, by go_num, by rw [Hst.out]; go_num, by rw [Hst.out]; exact hbig⟩
        case measure => simp [intOf]; omega
      · go_wp2_with fail
        go_ret
        exact ⟨rfl, Hb2.out⟩
    · obtain rfl : k = ls.length := by omega
      rw [List.take_length] at hsu ⊢
      by_cases hbig : ls.length ≤ 100
      · have Hjl : Hid ((joined ls).length ≤ 1000000) := Lib.hid (by rw [joined_len]; omega)
        have Hml : Hid (∀ l ∈ ls, l.length ≤ 1000000) := Lib.hid (fun l hl => by have := sumlen_mem ls l hl; omega)
        have Hn1 : Hid (ls.length ≤ 1000) := Lib.hid (by omega)
        go_wp2_with fail
        refine (lent_lists ls Hn1.out Hml.out A cap w2 HA2.out).mono ?_
        rintro e w3 ⟨v3, vs, rfl, hown, hle, hb3⟩
        obtain ⟨A3, c3, rfl, hrd, _, _⟩ := own_rd hown
        have Hl3 : Hid (Ls w3 w3.heap.size A3 ls) := Lib.hid (lent_ls hrd hle (Nat.le_refl _))
        have Hrd := Lib.hid hrd; have Hle := Lib.hid hle; have Hb3 := Lib.hid hb3
        have HK3 := Lib.hid (KMem.below HK2.out hb3 HK2.out.pos)
        clear hown hrd hle hb3
        go_wp2_with fail
        refine (join_any ls Hn1.out Hjl.out A3 c3 w3 Hl3.out HK3.out).mono ?_
        rintro e w4 ⟨rfl, hb4⟩
        have Hb4 := Lib.hid hb4
        clear hb4
        have Hd5 : Hid (dg (sha (joined ls)) = .agg (bcells (sha (joined ls))).toArray) := Lib.hid rfl
        have Ho5 : Hid ((bcells (sha (joined ls))).toArray.all (·.oneCell') = true) := Lib.hid (by
          rw [Array.all_eq_true_iff_forall_mem]; intro x hx; exact bcells_one _ x (by simpa using hx))
        have Hz5 : Hid ((bcells (sha (joined ls))).toArray.size = 32) := Lib.hid (by simp [bcells, sha_length])
        rw [Hd5.out]
        go_upto_region 12 with (refine wpList_store_row (o := ⟨none, .store 25 (.tmp 10) (.tmp 36), _, _, _, _⟩) rfl _ _ _ rfl w4.heap.size (bcells (sha (joined ls))).toArray rfl rfl _ _ (heap_alloc_new _ _) (by rw [Hz5.out]; kernel_rfl) (by rw [Hz5.out]; rfl) Ho5.out ?_)
        generalize hw5 : World.setRow _ _ _ = w5
        have Hc5 : Hid (w5.heap[w4.heap.size]? = some (.cells (bcells (sha (joined ls))).toArray 25 (0, 0))) := Lib.hid (by subst hw5; exact setRow_heap _ _ _ _ _ _ (heap_alloc_new _ _))
        have Hb5 : Hid (Below w4.heap.size w4 w5) := Lib.hid (by subst hw5; exact below_setRow ((Below.refl _ _).alloc (Nat.le_refl _) _) (Nat.le_refl _) _)
        clear hw5
        try simp only [Act.put]
        go_wp2_with fail
        refine (parse_any s w5).mono ?_
        rintro e w6 ⟨rfl, hb6⟩
        have Hb6 := Lib.hid hb6
        clear hb6
        have Hd7 : Hid (dg (parseD s.data.toList) = .agg (bcells (parseD s.data.toList)).toArray) := Lib.hid rfl
        have Ho7 : Hid ((bcells (parseD s.data.toList)).toArray.all (·.oneCell') = true) := Lib.hid (by
          rw [Array.all_eq_true_iff_forall_mem]; intro x hx; exact bcells_one _ x (by simpa using hx))
        have Hz7 : Hid ((bcells (parseD s.data.toList)).toArray.size = 32) := Lib.hid (by simp [bcells, parseD_length])
        rw [Hd7.out]
        go_upto_region 13 with (refine wpList_store_row (o := ⟨none, .store 25 (.tmp 11) (.tmp 40), _, _, _, _⟩) rfl _ _ _ rfl w6.heap.size (bcells (parseD s.data.toList)).toArray rfl rfl _ _ (heap_alloc_new _ _) (by rw [Hz7.out]; kernel_rfl) (by rw [Hz7.out]; rfl) Ho7.out ?_)
        generalize hw7 : World.setRow _ _ _ = w7
        have Hc7 : Hid (w7.heap[w6.heap.size]? = some (.cells (bcells (parseD s.data.toList)).toArray 25 (0, 0))) := Lib.hid (by subst hw7; exact setRow_heap _ _ _ _ _ _ (heap_alloc_new _ _))
        have Hb7 : Hid (Below w6.heap.size w6 w7) := Lib.hid (by subst hw7; exact below_setRow ((Below.refl _ _).alloc (Nat.le_refl _) _) (Nat.le_refl _) _)
        clear hw7
        try simp only [Act.put]
        go_wp2_with fail
        refine (parse_ref s w7).mono ?_
        rintro e w8 ⟨rfl, hb8⟩
        have Hb8 := Lib.hid hb8
        clear hb8
        have Hd9 : Hid (dg (parseD s.data.toList) = .agg (bcells (parseD s.data.toList)).toArray) := Lib.hid rfl
        have Ho9 : Hid ((bcells (parseD s.data.toList)).toArray.all (·.oneCell') = true) := Lib.hid (by
          rw [Array.all_eq_true_iff_forall_mem]; intro x hx; exact bcells_one _ x (by simpa using hx))
        have Hz9 : Hid ((bcells (parseD s.data.toList)).toArray.size = 32) := Lib.hid (by simp [bcells, parseD_length])
        rw [Hd9.out]
        go_upto_region 14 with (refine wpList_store_row (o := ⟨none, .store 25 (.tmp 13) (.tmp 45), _, _, _, _⟩) rfl _ _ _ rfl w8.heap.size (bcells (parseD s.data.toList)).toArray rfl rfl _ _ (heap_alloc_new _ _) (by rw [Hz9.out]; kernel_rfl) (by rw [Hz9.out]; rfl) Ho9.out ?_)
        generalize hw9 : World.setRow _ _ _ = w9
        have Hc9 : Hid (w9.heap[w8.heap.size]? = some (.cells (bcells (parseD s.data.toList)).toArray 25 (0, 0))) := Lib.hid (by subst hw9; exact setRow_heap _ _ _ _ _ _ (heap_alloc_new _ _))
        have Hb9 : Hid (Below w8.heap.size w8 w9) := Lib.hid (by subst hw9; exact below_setRow ((Below.refl _ _).alloc (Nat.le_refl _) _) (Nat.le_refl _) _)
        clear hw9
        try simp only [Act.put]
        have HBw : Hid (Below w.heap.size w w9) := Lib.hid (by
          have s2 := Hb2.out.size; have s3 := Hb3.out.size; have s4 := Hb4.out.size; have s5 := Hb5.out.size; have s6 := Hb6.out.size; have s7 := Hb7.out.size; have s8 := Hb8.out.size
          exact Hb2.out.trans ((Hb3.out.mono (by omega)).trans ((Hb4.out.mono (by omega)).trans ((Hb5.out.mono (by omega)).trans ((Hb6.out.mono (by omega)).trans ((Hb7.out.mono (by omega)).trans ((Hb8.out.mono (by omega)).trans (Hb9.out.mono (by omega)))))))))
        have HB39 : Hid (Below w3.heap.size w3 w9) := Lib.hid (by
          have s4 := Hb4.out.size; have s5 := Hb5.out.size; have s6 := Hb6.out.size; have s7 := Hb7.out.size; have s8 := Hb8.out.size
          exact Hb4.out.trans ((Hb5.out.mono (by omega)).trans ((Hb6.out.mono (by omega)).trans ((Hb7.out.mono (by omega)).trans ((Hb8.out.mono (by omega)).trans (Hb9.out.mono (by omega)))))))
        have HA9 := Lib.hid ((HA.out.below HBw.out).more HBw.out.size)
        have Hl9 := Lib.hid (Hle.out.below HB39.out)
        have Hr9 := Lib.hid ((Hrd.out.below HB39.out).more HB39.out.size)
        have Hkd : Hid (∀ W, Below w9.heap.size w9 W → W.heap[w.heap.size]? = some (.cells (bcells d).toArray 25 (0, 0))) := Lib.hid (fun W hW => by
          have h1 := lt_blk Hx.out
          have s3 := Hb3.out.size; have s4 := Hb4.out.size; have s5 := Hb5.out.size; have s6 := Hb6.out.size; have s7 := Hb7.out.size; have s8 := Hb8.out.size; have s9 := Hb9.out.size
          rw [hW.block _ (by omega), HB39.out.block _ (by omega), Hb3.out.block _ (by omega)]; exact Hx.out)
        have Hk5 : Hid (∀ W, Below w9.heap.size w9 W → W.heap[w4.heap.size]? = some (.cells (bcells (sha (joined ls))).toArray 25 (0, 0))) := Lib.hid (fun W hW => by
          have h1 := lt_blk Hc5.out
          have s6 := Hb6.out.size; have s7 := Hb7.out.size; have s8 := Hb8.out.size; have s9 := Hb9.out.size
          rw [hW.block _ (by omega), Hb9.out.block _ (by omega), Hb8.out.block _ (by omega), Hb7.out.block _ (by omega), Hb6.out.block _ (by omega)]; exact Hc5.out)
        have Hk7 : Hid (∀ W, Below w9.heap.size w9 W → W.heap[w6.heap.size]? = some (.cells (bcells (parseD s.data.toList)).toArray 25 (0, 0))) := Lib.hid (fun W hW => by
          have h1 := lt_blk Hc7.out
          have s8 := Hb8.out.size; have s9 := Hb9.out.size
          rw [hW.block _ (by omega), Hb9.out.block _ (by omega), Hb8.out.block _ (by omega)]; exact Hc7.out)
        have Hk9 : Hid (∀ W, Below w9.heap.size w9 W → W.heap[w8.heap.size]? = some (.cells (bcells (parseD s.data.toList)).toArray 25 (0, 0))) := Lib.hid (fun W hW => by
          rw [hW.block _ (lt_blk Hc9.out)]; exact Hc9.out)
        have Hj : Hid (∀ W, Below w9.heap.size w9 W → Calls Tryd.prog 32 #[.slice A ls.length cap] W fun e W' => e = .returned (dg (sha (joined ls))) ∧ Below w9.heap.size w9 W') := Lib.hid (fun W hW =>
          (join_ref ls Hn1.out Hjl.out A cap W ((HA9.out.below hW).more hW.size)).mono fun e W' ⟨he, hb⟩ => ⟨he, hW.trans (hb.mono hW.size)⟩)
        have Hkk : Hid (∀ W, Below w9.heap.size w9 W → Calls Tryd.prog 33 #[.slice A3 ls.length c3, .slice A ls.length cap] W fun e W' => e = .returned (.bool true) ∧ Below w9.heap.size w9 W') := Lib.hid (fun W hW =>
          (kept_lists ls Hn1.out Hml.out A cap w2.heap.size A3 c3 vs W ((HA9.out.below hW).more hW.size) ((Hr9.out.below hW).more hW.size) (Hl9.out.below hW)).mono fun e W' ⟨he, hb⟩ => ⟨he, hW.trans (hb.mono hW.size)⟩)
        have Ht1 : Hid (∀ W, Below w9.heap.size w9 W → Calls Tryd.prog 34 #[dg d] W fun e W' => e = .returned (.string (str (text d))) ∧ Below w9.heap.size w9 W') := Lib.hid (fun W hW =>
          (text_any d H1.out W).mono fun e W' ⟨he, hb⟩ => ⟨he, hW.trans (hb.mono hW.size)⟩)
        have Ht2 : Hid (∀ W, Below w9.heap.size w9 W → Calls Tryd.prog 35 #[dg d] W fun e W' => e = .returned (.string (str (text d))) ∧ Below w9.heap.size w9 W') := Lib.hid (fun W hW =>
          (text_ref d H1.out W).mono fun e W' ⟨he, hb⟩ => ⟨he, hW.trans (hb.mono hW.size)⟩)
        have e1 : ∀ W, (binOp .eql 25 (dg (sha (joined ls))) (dg (sha (joined ls)))).run Tryd.prog W = .ok (.bool true) W := fun W => by
          have := eql_dig (sha (joined ls)) (sha (joined ls)) (sha_length _) (sha_length _) W; simpa using this
        have e2 : ∀ W, (binOp .eql 25 (dg (parseD s.data.toList)) (dg (parseD s.data.toList))).run Tryd.prog W = .ok (.bool true) W := fun W => by
          have := eql_dig (parseD s.data.toList) (parseD s.data.toList) (parseD_length _) (parseD_length _) W; simpa using this
        have Hzj : Hid ((Tryd.prog.info? 25).map (·.size) = some (sha (joined ls)).length) := Lib.hid (dg_size _ (sha_length _))
        have Hzp : Hid ((Tryd.prog.info? 25).map (·.size) = some (parseD s.data.toList).length) := Lib.hid (dg_size _ (parseD_length _))
        refine wp_region_quiet (C := fun W => Below w9.heap.size w9 W) (by kernel_rfl) (by kernel_rfl) (below_drew _) ?_
        iterate 27 (first
          | (refine q_dg rfl _ (.tmp 4) rfl w.heap.size rfl 25 d _ _ Hkd.out Tryd.underlying25 rfl (dg_size d H1.out) ?_)
          | (refine q_dg rfl _ (.tmp 10) rfl w4.heap.size rfl 25 (sha (joined ls)) _ _ Hk5.out Tryd.underlying25 rfl Hzj.out ?_)
          | (refine q_dg rfl _ (.tmp 11) rfl w6.heap.size rfl 25 (parseD s.data.toList) _ _ Hk7.out Tryd.underlying25 rfl Hzp.out ?_)
          | (refine q_dg rfl _ (.tmp 13) rfl w8.heap.size rfl 25 (parseD s.data.toList) _ _ Hk9.out Tryd.underlying25 rfl Hzp.out ?_)
          | (refine wpQuiet_step (fun K hK => ?_); go_simp; (first
              | (refine ⟨_, fun _ _ => rfl, hK _ ?_⟩)
              | (refine ⟨_, Hj.out, hK _ ?_⟩) | (refine ⟨_, Hkk.out, hK _ ?_⟩) | (refine ⟨_, Ht1.out, hK _ ?_⟩) | (refine ⟨_, Ht2.out, hK _ ?_⟩)); clear hK K))
        refine wpQuiet_nil ?_
        intro W2 hW2
        have HW2 := Lib.hid hW2
        clear hW2
        go_wp2_with fail
        go_ret
        exact ⟨rfl, HBw.out.trans (HW2.out.mono HBw.out.size)⟩
      · go_wp2_with fail
        go_ret
        exact ⟨rfl, Hb2.out⟩
end Go.Proofs.YtkdkpnidiehdfaaDoor
