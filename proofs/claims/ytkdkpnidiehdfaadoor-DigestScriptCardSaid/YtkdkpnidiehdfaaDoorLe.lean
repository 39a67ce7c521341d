import Derived.Test.YtkdkpnidiehdfaaDoorLd
import Derived.Test.YtkdkpnidiehdfaaDoorKnA
import Derived.Test.YtkdkpnidiehdfaaDoorReg
import Derived.Lib.SlBytesConst
set_option linter.unusedSimpArgs false
set_option linter.unusedVariables false
namespace Go.Proofs.YtkdkpnidiehdfaaDoor
open Go.RowKit

theorem bn_mark (w : World) (l : List UInt8) (g : Nat) (hg : g < w.heap.size) (fr : Nat × Nat) : Bn (w.alloc (.cells (bcells l).toArray 5 fr)) g (some ⟨w.heap.size, 0, none⟩) l := fun j hj => by
  refine ⟨_, 0, rfl, by omega, by simp, ?_⟩
  obtain ⟨x, y⟩ := fr
  rw [cell_of_row _ w.heap.size _ _ _ (x, y) (heap_alloc_new _ _)]
  simp [bcells, List.getD_eq_getElem?_getD, hj]
def z8 : List UInt8 := List.replicate 8 0

set_option maxRecDepth 100000 in
set_option maxHeartbeats 16000000 in
theorem known_walk (w : World) (hk : KMem w) :
    Calls Tryd.prog 9 #[] w fun e w' => e = .returned (.bool true) ∧ Below w.heap.size w w' := by
  have HK := Lib.hid hk
  clear hk
  have Hrp : Hid (0 < w.heap.size) := Lib.hid (by have := HK.out.pos; omega)
  have kc := fun (w : World) (C : Array Value) (n c : Nat) => Lib.run_convert_bytes_const (P := Tryd.prog) w 22 5 C n c Tryd.underlying22 Tryd.underlying5
  go_enter Tryd.func9, Tryd.ntmps9
  go_upto_region 3 with (fail)
  generalize hN : (ByteArray.mk #[101, 51, 98, 48, 99, 52, 52, 50, 57, 56, 102, 99, 49, 99, 49, 52, 57, 97, 102, 98, 102, 52, 99, 56, 57, 57, 54, 102, 98, 57, 50, 52, 50, 55, 97, 101, 52, 49, 101, 52, 54, 52, 57, 98, 57, 51, 52, 99, 97, 52, 57, 53, 57, 57, 49, 98, 55, 56, 53, 50, 98, 56, 53, 53]) = NS
  generalize hA : (ByteArray.mk #[98, 97, 55, 56, 49, 54, 98, 102, 56, 102, 48, 49, 99, 102, 101, 97, 52, 49, 52, 49, 52, 48, 100, 101, 53, 100, 97, 101, 50, 50, 50, 51, 98, 48, 48, 51, 54, 49, 97, 51, 57, 54, 49, 55, 55, 97, 57, 99, 98, 52, 49, 48, 102, 102, 54, 49, 102, 50, 48, 48, 49, 53, 97, 100]) = AS
  have HN1 : Hid (NS.data.toList = noneL) := Lib.hid (by subst hN; rfl)
  have HN2 : Hid ((NS.extract 1 64).data.toList = noneL.tail) := Lib.hid (by subst hN; decide +kernel)
  have HN3 : Hid ((ByteArray.mk #[65] ++ NS.extract 1 64).data.toList = 65 :: noneL.tail) := Lib.hid (by subst hN; decide +kernel)
  have hNs : NS.size = 64 := by subst hN; rfl
  have HT : Hid (str (text (sha [])) = NS) := Lib.hid (by rw [text_none, ← hN]; rfl)
  have HTa : Hid (str (text (sha [97, 98, 99])) = AS) := Lib.hid (by rw [text_abc, ← hA]; rfl)
  clear hN hA
  go_wp2_with fail
  refine (new_any w).mono ?_
  rintro e w1 ⟨g, rfl, hg1, hc1, hb1⟩
  have Hg1 := Lib.hid hg1; have Hc1 := Lib.hid hc1; have Hb1 := Lib.hid hb1
  have HK1 := Lib.hid (KMem.below HK.out hb1 HK.out.pos)
  have Hgk : Hid (0 < g) := Lib.hid (by have := Hrp.out; omega)
  clear hg1 hc1 hb1
  go_wp2_with fail
  generalize hW : World.alloc _ _ = W1
  have HBW : Hid (Below w1.heap.size w1 W1) := Lib.hid (by subst hW; exact below_alloc _ _)
  have HbW : Hid (Bn W1 g (some ⟨w1.heap.size, 0, none⟩) [97]) := Lib.hid (by subst hW; exact bn_mark w1 [97] g (lt_blk Hc1.out) _)
  clear hW
  have Hc1W := Lib.hid ((HBW.out.block g (lt_blk Hc1.out)).trans Hc1.out)
  have HK1W := Lib.hid (KMem.below HK1.out HBW.out HK1.out.pos)
  refine (write_any HS.init rfl [97] (by decide) g _ _ W1 Hc1W.out HbW.out HK1W.out Hgk.out).mono ?_
  rintro e w2 ⟨rfl, hc2, hg2⟩
  have Hc2 := Lib.hid hc2; have Hg2 := Lib.hid hg2
  have HK2 := Lib.hid (KMem.grown HK1W.out hg2 (by intro g' e; injection e with e; have := Hgk.out; omega))
  have HB2 : Hid (Below w.heap.size w w2) := Lib.hid ((Hb1.out.trans (HBW.out.mono Hb1.out.size)).grown hg2 (Nat.le_trans Hb1.out.size HBW.out.size) (by intro k e; injection e with e; have := Hg1.out; omega))
  clear hc2 hg2
  go_wp2_with fail
  generalize hW : World.alloc _ _ = W2
  have HBX : Hid (Below w2.heap.size w2 W2) := Lib.hid (by subst hW; exact below_alloc _ _)
  have HbX : Hid (Bn W2 g (some ⟨w2.heap.size, 0, none⟩) [98, 99]) := Lib.hid (by subst hW; exact bn_mark w2 [98, 99] g (lt_blk Hc2.out) _)
  clear hW
  have Hc2X := Lib.hid ((HBX.out.block g (lt_blk Hc2.out)).trans Hc2.out)
  have HK2X := Lib.hid (KMem.below HK2.out HBX.out HK2.out.pos)
  refine (write_any (HS.init.take_ [97]) (by rw [take_wait]; rfl) [98, 99] (by rw [take_n]; decide) g _ _ W2 Hc2X.out HbX.out HK2X.out Hgk.out).mono ?_
  rintro e w3 ⟨rfl, hc3, hg3⟩
  rw [← take_app] at hc3
  have Hc3 : Hid (w3.heap[g]? = some (.cells (HS.init.take_ [97, 98, 99]).cells 35 (0, 0))) := Lib.hid hc3
  have HK3 := Lib.hid (KMem.grown HK2X.out hg3 (by intro g' e; injection e with e; have := Hgk.out; omega))
  have HB3 : Hid (Below w.heap.size w w3) := Lib.hid ((HB2.out.trans (HBX.out.mono HB2.out.size)).grown hg3 (Nat.le_trans HB2.out.size HBX.out.size) (by intro k e; injection e with e; have := Hg1.out; omega))
  clear hc3 hg3 kc
  go_wp2_with fail
  refine (parse_any _ w3).mono ?_
  rintro e w4 ⟨rfl, hb4⟩
  have Hb4 := Lib.hid hb4
  clear hb4
  rw [HN2.out, parse_short]
  have Hd5 : Hid (dg (parseD noneL.tail) = .agg (bcells (parseD noneL.tail)).toArray) := Lib.hid rfl
  have Ho5 : Hid ((bcells (parseD noneL.tail)).toArray.all (·.oneCell') = true) := Lib.hid (by
    rw [Array.all_eq_true_iff_forall_mem]; intro x hx; exact bcells_one _ x (by simpa using hx))
  have Hz5 : Hid ((bcells (parseD noneL.tail)).toArray.size = 32) := Lib.hid (by simp [bcells, parseD_length])
  rw [Hd5.out]
  go_upto_region 7 with (refine wpList_store_row (o := ⟨none, .store 25 (.tmp 4) (.tmp 31), _, _, _, _⟩) rfl _ _ _ rfl w4.heap.size (bcells (parseD noneL.tail)).toArray rfl rfl _ _ (heap_alloc_new _ _) (by rw [Hz5.out]; kernel_rfl) (by rw [Hz5.out]; rfl) Ho5.out ?_)
  generalize hw5 : World.setRow _ _ _ = w5
  have Hc5 : Hid (w5.heap[w4.heap.size]? = some (.cells (bcells (parseD noneL.tail)).toArray 25 (0, 0))) := Lib.hid (by subst hw5; exact setRow_heap _ _ _ _ _ _ (heap_alloc_new _ _))
  have Hb5 : Hid (Below w4.heap.size w4 w5) := Lib.hid (by subst hw5; exact below_setRow ((Below.refl _ _).alloc (Nat.le_refl _) _) (Nat.le_refl _) _)
  clear hw5
  try simp only [Act.put]
  go_wp2_with fail
  refine (parse_any _ w5).mono ?_
  rintro e w6 ⟨rfl, hb6⟩
  have Hb6 := Lib.hid hb6
  clear hb6
  rw [HN3.out, parse_odd]
  have Hd7 : Hid (dg (parseD (65 :: noneL.tail)) = .agg (bcells (parseD (65 :: noneL.tail))).toArray) := Lib.hid rfl
  have Ho7 : Hid ((bcells (parseD (65 :: noneL.tail))).toArray.all (·.oneCell') = true) := Lib.hid (by
    rw [Array.all_eq_true_iff_forall_mem]; intro x hx; exact bcells_one _ x (by simpa using hx))
  have Hz7 : Hid ((bcells (parseD (65 :: noneL.tail))).toArray.size = 32) := Lib.hid (by simp [bcells, parseD_length])
  rw [Hd7.out]
  go_upto_region 8 with (refine wpList_store_row (o := ⟨none, .store 25 (.tmp 6) (.tmp 38), _, _, _, _⟩) rfl _ _ _ rfl w6.heap.size (bcells (parseD (65 :: noneL.tail))).toArray rfl rfl _ _ (heap_alloc_new _ _) (by rw [Hz7.out]; kernel_rfl) (by rw [Hz7.out]; rfl) Ho7.out ?_)
  generalize hw7 : World.setRow _ _ _ = w7
  have Hc7 : Hid (w7.heap[w6.heap.size]? = some (.cells (bcells (parseD (65 :: noneL.tail))).toArray 25 (0, 0))) := Lib.hid (by subst hw7; exact setRow_heap _ _ _ _ _ _ (heap_alloc_new _ _))
  have Hb7 : Hid (Below w6.heap.size w6 w7) := Lib.hid (by subst hw7; exact below_setRow ((Below.refl _ _).alloc (Nat.le_refl _) _) (Nat.le_refl _) _)
  clear hw7
  try simp only [Act.put]
  go_wp2_with fail
  refine (parse_any _ w7).mono ?_
  rintro e w8 ⟨rfl, hb8⟩
  have Hb8 := Lib.hid hb8
  clear hb8
  rw [HN1.out, parse_none.2, parse_none.1]
  have Hd9 : Hid (dg (sha []) = .agg (bcells (sha [])).toArray) := Lib.hid rfl
  have Ho9 : Hid ((bcells (sha [])).toArray.all (·.oneCell') = true) := Lib.hid (by
    rw [Array.all_eq_true_iff_forall_mem]; intro x hx; exact bcells_one _ x (by simpa using hx))
  have Hz9 : Hid ((bcells (sha [])).toArray.size = 32) := Lib.hid (by simp [bcells, sha_length])
  rw [Hd9.out]
  go_upto_region 9 with (refine wpList_store_row (o := ⟨none, .store 25 (.tmp 8) (.tmp 43), _, _, _, _⟩) rfl _ _ _ rfl w8.heap.size (bcells (sha [])).toArray rfl rfl _ _ (heap_alloc_new _ _) (by rw [Hz9.out]; kernel_rfl) (by rw [Hz9.out]; rfl) Ho9.out ?_)
  generalize hw9 : World.setRow _ _ _ = w9
  have Hc9 : Hid (w9.heap[w8.heap.size]? = some (.cells (bcells (sha [])).toArray 25 (0, 0))) := Lib.hid (by subst hw9; exact setRow_heap _ _ _ _ _ _ (heap_alloc_new _ _))
  have Hb9 : Hid (Below w8.heap.size w8 w9) := Lib.hid (by subst hw9; exact below_setRow ((Below.refl _ _).alloc (Nat.le_refl _) _) (Nat.le_refl _) _)
  clear hw9
  try simp only [Act.put]
  have HB39 : Hid (Below w3.heap.size w3 w9) := Lib.hid (by
    have s4 := Hb4.out.size; have s5 := Hb5.out.size; have s6 := Hb6.out.size; have s7 := Hb7.out.size; have s8 := Hb8.out.size
    exact Hb4.out.trans ((Hb5.out.mono (by omega)).trans ((Hb6.out.mono (by omega)).trans ((Hb7.out.mono (by omega)).trans ((Hb8.out.mono (by omega)).trans (Hb9.out.mono (by omega)))))))
  have HB9 : Hid (Below w.heap.size w w9) := Lib.hid (HB3.out.trans (HB39.out.mono HB3.out.size))
  have Hpos : Hid (0 < w9.heap.size) := Lib.hid (by have := Hrp.out; have := HB9.out.size; omega)
  have HKW : Hid (∀ W, Below w9.heap.size w9 W → KMem W) := Lib.hid (fun W hW => KMem.below (KMem.below HK3.out HB39.out HK3.out.pos) hW Hpos.out)
  have HgW : Hid (∀ W, Below w9.heap.size w9 W → W.heap[g]? = some (.cells (HS.init.take_ [97, 98, 99]).cells 35 (0, 0))) := Lib.hid (fun W hW => by
    have h1 := lt_blk Hc3.out; have h2 := HB39.out.size
    rw [hW.block g (by omega), HB39.out.block g h1]; exact Hc3.out)
  have H9W : Hid (∀ W, Below w9.heap.size w9 W → W.heap[w8.heap.size]? = some (.cells (bcells (sha [])).toArray 25 (0, 0))) := Lib.hid (fun W hW => by
    rw [hW.block _ (lt_blk Hc9.out)]; exact Hc9.out)
  have Hsum : Hid (∀ (l : List UInt8) W v, Below w9.heap.size w9 W → l.length ≤ 100 → SlB l v W → Calls Tryd.prog 16 #[v] W fun e w'' => ∃ v, e = .returned v ∧ Below W.heap.size W w'' ∧ ttHolds (.inl (dg (sha l))) v w'') := Lib.hid (fun l W v hW hl ⟨A, cap, hv, h1, h2⟩ => by
    subst hv
    exact (dig_sum l (by omega) A cap W h1 (HKW.out W hW)).mono fun e w' ⟨he, hb⟩ => ⟨_, he, hb, by rw [finish_sha]; rfl⟩)
  have Hnil : Hid (∀ W, SlB [] (.slice none 0 0) W) := Lib.hid (fun W => ⟨none, 0, rfl, Bs.nil _ _ _, fun _ => rfl⟩)
  have Htxt : Hid (∀ (l : List UInt8) (S : ByteArray) W, str (text (sha l)) = S → Calls Tryd.prog 34 #[dg (sha l)] W fun e w'' => ∃ v, e = .returned v ∧ Below W.heap.size W w'' ∧ ttHolds (.inl (.string S)) v w'') := Lib.hid (fun l S W hS => by
    subst hS
    exact (text_any (sha l) (sha_length l) W).mono fun e w' ⟨he, hb⟩ => ⟨_, he, hb, rfl⟩)
  have Hhs : Hid (∀ W, Below w9.heap.size w9 W → Calls Tryd.prog 20 #[.pointer (some ⟨g, 0, none⟩)] W fun e w'' => ∃ v, e = .returned v ∧ Below W.heap.size W w'' ∧ ttHolds (.inl (dg (sha [97, 98, 99]))) v w'') := Lib.hid (fun W hW =>
    (sum_dig (HS.init.take_ [97, 98, 99]) (by rw [take_wait]; rfl) (by rw [take_n]; decide) g W (HgW.out W hW) (HKW.out W hW)).mono fun e w' ⟨he, hb⟩ => ⟨_, he, hb, by rw [finish_sha]; rfl⟩)
  have Hhl : Hid (∀ W, Below w9.heap.size w9 W → Calls Tryd.prog 21 #[.pointer (some ⟨g, 0, none⟩)] W fun e w'' => ∃ v, e = .returned v ∧ Below W.heap.size W w'' ∧ ttHolds (.inl (.int .i64 3)) v w'') := Lib.hid (fun W hW =>
    (len_any g (HS.init.take_ [97, 98, 99]) (by rw [take_wait]; rfl) W (HgW.out W hW)).mono fun e w' ⟨he, hb⟩ => ⟨_, he, by subst hb; exact Below.refl _ _, by rw [take_n]; rfl⟩)
  have Hjn : Hid (∀ (ls : List (List UInt8)) W v, Below w9.heap.size w9 W → ls.length ≤ 10 → (joined ls).length ≤ 100 → SlL ls v W → Calls Tryd.prog 29 #[v] W fun e w'' => ∃ v, e = .returned v ∧ Below W.heap.size W w'' ∧ ttHolds (.inl (dg (sha (joined ls)))) v w'') := Lib.hid (fun ls W v hW h1 h2 ⟨A, cap, hv, h3⟩ => by
    subst hv
    exact (join_any ls (by omega) (by omega) A cap W h3 (HKW.out W hW)).mono fun e w' ⟨he, hb⟩ => ⟨_, he, hb, rfl⟩)
  have Hj0 : Hid (∀ W, SlL [] (.slice none 0 0) W) := Lib.hid (fun W => ⟨none, 0, rfl, fun i hi => by simp at hi⟩)
  have e0 : ∀ W, (binOp .eql 25 (dg (sha [])) (dg (sha []))).run Tryd.prog W = .ok (.bool true) W := fun W => by
    have := eql_dig (sha []) (sha []) (sha_length _) (sha_length _) W; simpa using this
  have e8 : ∀ W, (binOp .eql 25 (dg (sha z8)) (dg (sha z8))).run Tryd.prog W = .ok (.bool true) W := fun W => by
    have := eql_dig (sha z8) (sha z8) (sha_length _) (sha_length _) W; simpa using this
  have hmk := fun W => run_make_el E5 8 8 (by simp) (by omega) (by omega) W
  apply wp_region_rel 54 [Sum.inl _, Sum.inl _, Sum.inl _, Sum.inl _, Sum.inl _, Sum.inr (RowN w9.heap.size [97, 98, 99]), Sum.inr (RowB [97, 98, 99]), Sum.inl _, Sum.inl _, Sum.inl _, Sum.inl _, Sum.inl _, Sum.inl _, Sum.inl _, Sum.inl _, Sum.inl _, Sum.inl _, Sum.inl _, Sum.inl _, Sum.inl _, Sum.inl _, Sum.inl _, Sum.inl _, Sum.inl _, Sum.inl _, Sum.inl _, Sum.inl _, Sum.inl _, Sum.inl _, Sum.inl _, Sum.inr (SlL [[]]), Sum.inl _, Sum.inr (SlB z8), Sum.inl _, Sum.inl _, Sum.inl _, Sum.inl _, Sum.inl _, Sum.inl _, Sum.inl _, Sum.inl _, Sum.inl _, Sum.inl _, Sum.inl _, Sum.inl _, Sum.inl _, Sum.inl _, Sum.inl _, Sum.inl _, Sum.inl _, Sum.inl _, Sum.inl _, Sum.inl _, Sum.inl _] (by kernel_rfl) (by kernel_rfl) rfl
  simp only [List.take_succ_cons, List.take_zero, List.drop_succ_cons, List.drop_zero]
  apply rel_is
  · intro W hW hf
    exact rel_call hW rfl (by go_simp) (Hsum.out [] W _ hW (by decide) (Hnil.out W))
  simp only [Act.put, List.setIfInBounds_toArray, List.set_cons_succ, List.set_cons_zero]
  apply rel_is
  · intro W hW hf
    exact rel_call hW rfl (by go_simp) (Htxt.out [] NS W HT.out)
  simp only [Act.put, List.setIfInBounds_toArray, List.set_cons_succ, List.set_cons_zero]
  apply rel_is
  · intro W hW hf; go_simp; exact ⟨Stay.refl _ _, rfl⟩
  simp only [Act.put, List.setIfInBounds_toArray, List.set_cons_succ, List.set_cons_zero]
  apply rel_is
  · intro W hW hf; go_simp; exact ⟨Stay.refl _ _, rfl⟩
  simp only [Act.put, List.setIfInBounds_toArray, List.set_cons_succ, List.set_cons_zero]
  apply rel_is
  · intro W hW hf; go_simp; exact ⟨Stay.refl _ _, rfl⟩
  simp only [Act.put, List.setIfInBounds_toArray, List.set_cons_succ, List.set_cons_zero]
  refine rel_fits (fun W hW hf => ?_) (RowN.keeps _ _) fun v5 => ?_
  · go_simp
    exact ⟨Stay.alloc hW _, RowB.new _ _ _ _ rfl rfl, fun g' e => by simp only [Value.ownBlock, Option.some.injEq] at e; have := hW.size; omega⟩
  simp only [Act.put, List.setIfInBounds_toArray, List.set_cons_succ, List.set_cons_zero]
  refine rel_fits (fun W hW hf => ?_) (RowB.keeps _) fun v6 => ?_
  · have h5 := hf (50, RowN w9.heap.size [97, 98, 99] v5) (by simp) (by simp [Oper.looksAt, Op.operands])
    exact rel_mark hW rfl _ rfl h5.1 h5.2
  simp only [Act.put, List.setIfInBounds_toArray, List.set_cons_succ, List.set_cons_zero]
  apply rel_is
  · intro W hW hf
    have h6 := hf (51, RowB [97, 98, 99] v6) (by simp) (by simp [Oper.looksAt, Op.operands, Call.operands])
    exact rel_call hW rfl (by go_simp) (Hsum.out [97, 98, 99] W v6 hW (by decide) h6.slb)
  simp only [Act.put, List.setIfInBounds_toArray, List.set_cons_succ, List.set_cons_zero]
  apply rel_is
  · intro W hW hf
    exact rel_call hW rfl (by go_simp) (Htxt.out [97, 98, 99] AS W HTa.out)
  simp only [Act.put, List.setIfInBounds_toArray, List.set_cons_succ, List.set_cons_zero]
  apply rel_is
  · intro W hW hf; go_simp; exact ⟨Stay.refl _ _, rfl⟩
  simp only [Act.put, List.setIfInBounds_toArray, List.set_cons_succ, List.set_cons_zero]
  apply rel_is
  · intro W hW hf; go_simp; exact ⟨Stay.refl _ _, rfl⟩
  simp only [Act.put, List.setIfInBounds_toArray, List.set_cons_succ, List.set_cons_zero]
  apply rel_is
  · intro W hW hf; go_simp; exact ⟨Stay.refl _ _, rfl⟩
  simp only [Act.put, List.setIfInBounds_toArray, List.set_cons_succ, List.set_cons_zero]
  apply rel_is
  · intro W hW hf; go_simp; exact ⟨Stay.refl _ _, rfl⟩
  simp only [Act.put, List.setIfInBounds_toArray, List.set_cons_succ, List.set_cons_zero]
  apply rel_is
  · intro W hW hf; go_simp; exact ⟨Stay.refl _ _, rfl⟩
  simp only [Act.put, List.setIfInBounds_toArray, List.set_cons_succ, List.set_cons_zero]
  apply rel_is
  · intro W hW hf
    exact rel_call hW rfl (by go_simp) (Hhs.out W hW)
  simp only [Act.put, List.setIfInBounds_toArray, List.set_cons_succ, List.set_cons_zero]
  apply rel_is
  · intro W hW hf
    exact rel_call hW rfl (by go_simp) (Htxt.out [97, 98, 99] AS W HTa.out)
  simp only [Act.put, List.setIfInBounds_toArray, List.set_cons_succ, List.set_cons_zero]
  apply rel_is
  · intro W hW hf; go_simp; exact ⟨Stay.refl _ _, rfl⟩
  simp only [Act.put, List.setIfInBounds_toArray, List.set_cons_succ, List.set_cons_zero]
  apply rel_is
  · intro W hW hf; go_simp; exact ⟨Stay.refl _ _, rfl⟩
  simp only [Act.put, List.setIfInBounds_toArray, List.set_cons_succ, List.set_cons_zero]
  apply rel_is
  · intro W hW hf; go_simp; exact ⟨Stay.refl _ _, rfl⟩
  simp only [Act.put, List.setIfInBounds_toArray, List.set_cons_succ, List.set_cons_zero]
  apply rel_is
  · intro W hW hf; go_simp; exact ⟨Stay.refl _ _, rfl⟩
  simp only [Act.put, List.setIfInBounds_toArray, List.set_cons_succ, List.set_cons_zero]
  apply rel_is
  · intro W hW hf; go_simp; exact ⟨Stay.refl _ _, rfl⟩
  simp only [Act.put, List.setIfInBounds_toArray, List.set_cons_succ, List.set_cons_zero]
  apply rel_is
  · intro W hW hf
    exact rel_call hW rfl (by go_simp) (Hhl.out W hW)
  simp only [Act.put, List.setIfInBounds_toArray, List.set_cons_succ, List.set_cons_zero]
  apply rel_is
  · intro W hW hf; go_simp; exact ⟨Stay.refl _ _, rfl⟩
  simp only [Act.put, List.setIfInBounds_toArray, List.set_cons_succ, List.set_cons_zero]
  apply rel_is
  · intro W hW hf; go_simp; exact ⟨Stay.refl _ _, rfl⟩
  simp only [Act.put, List.setIfInBounds_toArray, List.set_cons_succ, List.set_cons_zero]
  apply rel_is
  · intro W hW hf; go_simp; exact ⟨Stay.refl _ _, rfl⟩
  simp only [Act.put, List.setIfInBounds_toArray, List.set_cons_succ, List.set_cons_zero]
  apply rel_is
  · intro W hW hf
    exact rel_call hW rfl (by go_simp) (Hjn.out [] W _ hW (by decide) (by decide) (Hj0.out W))
  simp only [Act.put, List.setIfInBounds_toArray, List.set_cons_succ, List.set_cons_zero]
  rw [show joined [] = [] from rfl]
  apply rel_is
  · intro W hW hf
    exact rel_call hW rfl (by go_simp) (Hsum.out [] W _ hW (by decide) (Hnil.out W))
  simp only [Act.put, List.setIfInBounds_toArray, List.set_cons_succ, List.set_cons_zero]
  apply rel_is
  · intro W hW hf; go_simp; exact ⟨Stay.refl _ _, rfl⟩
  simp only [Act.put, List.setIfInBounds_toArray, List.set_cons_succ, List.set_cons_zero]
  apply rel_is
  · intro W hW hf; go_simp; exact ⟨Stay.refl _ _, rfl⟩
  simp only [Act.put, List.setIfInBounds_toArray, List.set_cons_succ, List.set_cons_zero]
  apply rel_is
  · intro W hW hf; go_simp; exact ⟨Stay.refl _ _, rfl⟩
  simp only [Act.put, List.setIfInBounds_toArray, List.set_cons_succ, List.set_cons_zero]
  refine rel_fits (fun W hW hf => ?_) (SlL.keeps _) fun v30 => ?_
  · go_simp
    refine ⟨Stay.alloc hW _, _, 1, rfl, fun i hi => ?_⟩
    obtain rfl : i = 0 := by simp at hi; omega
    exact ⟨_, 0, rfl, by simp, none, 0, by rw [cell_blk (heap_alloc_new _ _)]; rfl, Bs.nil _ _ _, fun _ => rfl⟩
  simp only [Act.put, List.setIfInBounds_toArray, List.set_cons_succ, List.set_cons_zero]
  apply rel_is
  · intro W hW hf
    have h30 := hf (75, SlL [[]] v30) (by simp) (by simp [Oper.looksAt, Op.operands, Call.operands])
    exact rel_call hW rfl (by go_simp) (Hjn.out [[]] W v30 hW (by decide) (by decide) h30)
  simp only [Act.put, List.setIfInBounds_toArray, List.set_cons_succ, List.set_cons_zero]
  rw [show joined [[]] = z8 from by decide]
  refine rel_fits (fun W hW hf => ?_) (SlB.keeps _) fun v32 => ?_
  · go_simp
    exact ⟨Stay.alloc hW _, SlB.new z8 _ _ _ _ _ rfl rfl⟩
  simp only [Act.put, List.setIfInBounds_toArray, List.set_cons_succ, List.set_cons_zero]
  apply rel_is
  · intro W hW hf
    have h32 := hf (77, SlB z8 v32) (by simp) (by simp [Oper.looksAt, Op.operands, Call.operands])
    exact rel_call hW rfl (by go_simp) (Hsum.out z8 W v32 hW (by decide) h32)
  simp only [Act.put, List.setIfInBounds_toArray, List.set_cons_succ, List.set_cons_zero]
  apply rel_is
  · intro W hW hf; go_simp; exact ⟨Stay.refl _ _, rfl⟩
  simp only [Act.put, List.setIfInBounds_toArray, List.set_cons_succ, List.set_cons_zero]
  apply rel_is
  · intro W hW hf; go_simp; exact ⟨Stay.refl _ _, rfl⟩
  simp only [Act.put, List.setIfInBounds_toArray, List.set_cons_succ, List.set_cons_zero]
  apply rel_is
  · intro W hW hf; go_simp; exact ⟨Stay.refl _ _, rfl⟩
  simp only [Act.put, List.setIfInBounds_toArray, List.set_cons_succ, List.set_cons_zero]
  apply rel_is
  · intro W hW hf; go_simp; exact ⟨Stay.refl _ _, rfl⟩
  simp only [Act.put, List.setIfInBounds_toArray, List.set_cons_succ, List.set_cons_zero]
  apply rel_is
  · intro W hW hf; go_simp; exact ⟨Stay.refl _ _, rfl⟩
  simp only [Act.put, List.setIfInBounds_toArray, List.set_cons_succ, List.set_cons_zero]
  apply rel_is
  · intro W hW hf; go_simp; exact ⟨Stay.refl _ _, rfl⟩
  simp only [Act.put, List.setIfInBounds_toArray, List.set_cons_succ, List.set_cons_zero]
  apply rel_is
  · intro W hW hf; go_simp; exact ⟨Stay.refl _ _, rfl⟩
  simp only [Act.put, List.setIfInBounds_toArray, List.set_cons_succ, List.set_cons_zero]
  apply rel_is
  · intro W hW hf; go_simp; exact ⟨Stay.refl _ _, rfl⟩
  simp only [Act.put, List.setIfInBounds_toArray, List.set_cons_succ, List.set_cons_zero]
  apply rel_is
  · intro W hW hf; go_simp; exact ⟨Stay.refl _ _, rfl⟩
  simp only [Act.put, List.setIfInBounds_toArray, List.set_cons_succ, List.set_cons_zero]
  apply rel_is
  · intro W hW hf; go_simp; exact ⟨Stay.refl _ _, rfl⟩
  simp only [Act.put, List.setIfInBounds_toArray, List.set_cons_succ, List.set_cons_zero]
  apply rel_is
  · intro W hW hf; go_simp; exact ⟨Stay.refl _ _, rfl⟩
  simp only [Act.put, List.setIfInBounds_toArray, List.set_cons_succ, List.set_cons_zero]
  apply rel_is
  · intro W hW hf; go_simp; exact ⟨Stay.refl _ _, rfl⟩
  simp only [Act.put, List.setIfInBounds_toArray, List.set_cons_succ, List.set_cons_zero]
  apply rel_is
  · intro W hW hf; go_simp; exact ⟨Stay.refl _ _, rfl⟩
  simp only [Act.put, List.setIfInBounds_toArray, List.set_cons_succ, List.set_cons_zero]
  apply rel_is
  · intro W hW hf; go_simp; exact ⟨Stay.refl _ _, rfl⟩
  simp only [Act.put, List.setIfInBounds_toArray, List.set_cons_succ, List.set_cons_zero]
  apply rel_is
  · intro W hW hf; go_simp; exact ⟨Stay.refl _ _, rfl⟩
  simp only [Act.put, List.setIfInBounds_toArray, List.set_cons_succ, List.set_cons_zero]
  apply rel_is
  · intro W hW hf
    exact rel_row rfl _ (.tmp 8) rfl w8.heap.size rfl 25 (sha []) _ _ (H9W.out W hW) Tryd.underlying25 rfl (dg_size _ (sha_length _))
  simp only [Act.put, List.setIfInBounds_toArray, List.set_cons_succ, List.set_cons_zero]
  apply rel_is
  · intro W hW hf
    exact rel_call hW rfl (by go_simp) (Hsum.out [] W _ hW (by decide) (Hnil.out W))
  simp only [Act.put, List.setIfInBounds_toArray, List.set_cons_succ, List.set_cons_zero]
  apply rel_is
  · intro W hW hf; go_simp; exact ⟨Stay.refl _ _, rfl⟩
  simp only [Act.put, List.setIfInBounds_toArray, List.set_cons_succ, List.set_cons_zero]
  apply rel_is
  · intro W hW hf; go_simp; exact ⟨Stay.refl _ _, rfl⟩
  simp only [Act.put, List.setIfInBounds_toArray, List.set_cons_succ, List.set_cons_zero]
  apply rel_is
  · intro W hW hf; go_simp; exact ⟨Stay.refl _ _, rfl⟩
  simp only [Act.put, List.setIfInBounds_toArray, List.set_cons_succ, List.set_cons_zero]
  refine rel_end ?_
  intro W hW _
  have HW := Lib.hid hW
  clear hW
  refine wpList_nil ?_
  go_wp2_with fail
  go_ret
  exact ⟨rfl, HB9.out.trans (HW.out.mono HB9.out.size)⟩
end Go.Proofs.YtkdkpnidiehdfaaDoor
