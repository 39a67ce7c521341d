/- assizelaw09.CodeKnown. -/
import Derived.Test.YtbmpjphemjponaaWx
set_option linter.unusedSimpArgs false
set_option linter.unusedVariables false
namespace Go.Proofs.Ytbmpjphemjponaa
open Go.RowKit

theorem ins_one {W : World} {g : Nat} {i : Ins} (h : W.heap[g]? = some (.cells #[.int .u8 i.op, .int .i64 i.arg, .int .u8 i.l.t, .int .u64 i.l.b] 53 (0, 0))) : InsAt W W.heap.size (some ⟨g, 0, none⟩, 1) [i] := by
  refine ⟨fun k hk => ?_, ⟨fun h => (by cases h), Nat.le_refl _⟩⟩
  obtain rfl : k = 0 := by simp at hk; omega
  refine ⟨g, 0, ic i, rfl, lt_blk h, rfl, fun j hj => ?_, rfl⟩
  rw [cell_blk h]
  have : j = 0 ∨ j = 1 ∨ j = 2 ∨ j = 3 := by omega
  rcases this with rfl | rfl | rfl | rfl <;> rfl
theorem one_ok (n : Nd) (h : n.code.length ≤ 1) (hi : IsIn n.code) : CdSmall (oneC n) ∧ CdIn (oneC n) := by
  have key : ∀ i, i < (oneC n).bodies.length → (oneC n).bodies.getD i default = ⟨[], 1, [n]⟩ := fun i hi => by
    obtain rfl : i = 0 := by simp [oneC] at hi; omega
    rfl
  have key2 : ∀ j, j < [n].length → [n].getD j default = n := fun j hj => by
    obtain rfl : j = 0 := by simp at hj; omega
    rfl
  refine ⟨⟨by simp [oneC], by simp [oneC], fun i hi => ?_⟩, ⟨fun i hi => ?_, fun i hi' => ?_⟩⟩
  · rw [key i hi]
    exact ⟨by simp, by simp, fun j hj => by unfold NdSmall; rw [key2 j hj]; omega⟩
  · obtain rfl : i = 0 := by simp [oneC] at hi; omega
    show VlIn ⟨1, 0⟩
    exact ⟨⟨by decide, by decide⟩, by decide, by decide⟩
  · rw [key i hi']
    exact ⟨fun i hi => absurd hi (Nat.not_lt_zero _), fun j hj => by rw [key2 j hj]; exact hi⟩
theorem c65_ok : CdSmall c65 ∧ CdIn c65 := by
  have key : ∀ i, i < c65.bodies.length → c65.bodies.getD i default = ⟨[], 65, []⟩ := fun i hi => by
    obtain rfl : i = 0 := by simp [c65] at hi; omega
    rfl
  refine ⟨⟨by decide, by decide, fun i hi => ?_⟩, ⟨fun i hi => absurd hi (Nat.not_lt_zero _), fun i hi' => ?_⟩⟩
  · rw [key i hi]; exact ⟨by decide, by decide, fun j hj => absurd hj (Nat.not_lt_zero _)⟩
  · rw [key i hi']; exact ⟨fun i hi => absurd hi (Nat.not_lt_zero _), fun j hj => absurd hj (Nat.not_lt_zero _)⟩
theorem cd1_ok : CdSmall cd1 ∧ CdIn cd1 := by
  have key : ∀ i, i < cd1.bodies.length → cd1.bodies.getD i default = Bd.zero := fun i hi => by
    obtain rfl : i = 0 := by simp [cd1] at hi; omega
    rfl
  refine ⟨⟨by decide, by decide, fun i hi => ?_⟩, ⟨fun i hi => absurd hi (Nat.not_lt_zero _), fun i hi' => ?_⟩⟩
  · rw [key i hi]; exact ⟨by decide, by decide, fun j hj => absurd hj (Nat.not_lt_zero _)⟩
  · rw [key i hi']; exact ⟨fun i hi => absurd hi (Nat.not_lt_zero _), fun j hj => absurd hj (Nat.not_lt_zero _)⟩
/-- one's code, checked. -/
theorem chk_one (n : Nd) (h : n.code.length ≤ 1) (hi : IsIn n.code) (p q : Slc) (w : World) (h1 : VlsAt w w.heap.size p (oneC n).shared) (h2 : BdsAt w w.heap.size q (oneC n).bodies) :
    Calls Try.prog 21 #[cdv (oneC n) p q] w fun e w' => e = .returned (.int .i64 (chk (oneC n))) ∧ Below w.heap.size w w' :=
  check_any (oneC n) (one_ok n h hi).1 (one_ok n h hi).2 p q w.heap.size w h1 h2 (Nat.le_refl _)
set_option maxRecDepth 100000 in
set_option maxHeartbeats 2000000 in
theorem known_any (w : World) : Calls Try.prog 5 #[] w fun e w' => e = .returned (.bool true) ∧ Below w.heap.size w w' := by
  go_enter Try.func5, Try.ntmps5
  go_upto_region 2 with (fail)
  obtain ⟨b0_, hb_⟩ := boxes1 w (.cells #[.int .u8 1, .int .i64 0, .int .u8 1, .int .u64 1] 53)
  generalize w.alloc (.cells #[.int .u8 1, .int .i64 0, .int .u8 1, .int .u64 1] 53) = w0 at *
  have T0b : Hid (∀ W, Below w0.heap.size w0 W → W.heap[w.heap.size]? = some (.cells #[.int .u8 1, .int .i64 0, .int .u8 1, .int .u64 1] 53 (0, 0))) := Lib.hid (fun W hW => (hW.block _ (lt_blk b0_)).trans b0_)
  have T0 : Hid (∀ W, Below w0.heap.size w0 W → W.cell? ⟨w.heap.size, 0, none⟩ = some (.int .u8 1) ∧ W.cell? ⟨w.heap.size, 1, none⟩ = some (.int .i64 0) ∧ W.cell? ⟨w.heap.size, 2, none⟩ = some (.int .u8 1) ∧ W.cell? ⟨w.heap.size, 3, none⟩ = some (.int .u64 1)) := Lib.hid (fun W hW => by have e := (hW.block _ (lt_blk b0_)).trans b0_; exact ⟨by rw [cell_blk e]; rfl, by rw [cell_blk e]; rfl, by rw [cell_blk e]; rfl, by rw [cell_blk e]; rfl⟩)
  have B0 := Lib.hid hb_
  clear hb_ b0_
  have HL : Hid (InsAt w0 w0.heap.size (some ⟨w.heap.size, 0, none⟩, 1) [⟨1, 0, ⟨1, 1⟩⟩]) := Lib.hid (ins_one (T0b.out w0 (Below.refl _ _)))
  clear T0 T0b
  go_wp2_with fail
  refine (read_any [] (by decide) none 0 0 w0 (fun j hj => absurd hj (Nat.not_lt_zero _)) (fun _ => rfl) (Nat.zero_le _)).mono ?_
  rintro e w1 ⟨hp, hb1⟩
  unfold ReadP at hp
  rw [k_read.1] at hp
  obtain rfl := hp
  have B1 := Lib.hid (B0.out.trans (hb1.mono B0.out.size)); have HL1 := Lib.hid (HL.out.below hb1)
  have C1 := Lib.hid hb1.size
  clear hb1
  go_upto_region 3 with (fail)
  have hb2 := below_alloc w1 (.cells #[.slice none 0 0, .int .i64 0, .slice none 0 0] 25)
  generalize w1.alloc (.cells #[.slice none 0 0, .int .i64 0, .slice none 0 0] 25) = w2 at *
  have C2 := Lib.hid (Nat.le_trans C1.out hb2.size)
  have B2 := Lib.hid (B1.out.trans (hb2.mono B1.out.size)); have HL2 := Lib.hid (HL1.out.below (hb2.mono C1.out))
  clear hb2
  go_wp2_with fail
  have hb3 := below_alloc w2 (.cells #[.int .u8 0, .int .u8 0, .int .u8 1, .int .u8 0, .int .u8 0, .int .u8 0, .int .u8 0] 5)
  have h3 := heap_alloc_new w2 (.cells #[.int .u8 0, .int .u8 0, .int .u8 1, .int .u8 0, .int .u8 0, .int .u8 0, .int .u8 0] 5)
  generalize w2.alloc (.cells #[.int .u8 0, .int .u8 0, .int .u8 1, .int .u8 0, .int .u8 0, .int .u8 0, .int .u8 0] 5) = w3 at *
  have HZ : Hid (Bs w3 w3.heap.size (some ⟨w2.heap.size, 0, none⟩) zero7) := Lib.hid (fun j hj => ⟨w2.heap.size, 0, rfl, lt_blk h3, by
    rw [cell_blk h3]
    have : j = 0 ∨ j = 1 ∨ j = 2 ∨ j = 3 ∨ j = 4 ∨ j = 5 ∨ j = 6 := by have : zero7.length = 7 := rfl; omega
    rcases this with rfl | rfl | rfl | rfl | rfl | rfl | rfl <;> rfl⟩)
  have C3 := Lib.hid (Nat.le_trans C2.out hb3.size)
  have B3 := Lib.hid (B2.out.trans (hb3.mono B2.out.size)); have HL3 := Lib.hid (HL2.out.below (hb3.mono C2.out))
  clear hb3 h3
  refine (read_any zero7 (by decide) (some ⟨w2.heap.size, 0, none⟩) 7 w3.heap.size w3 HZ.out (by intro h; cases h) (Nat.le_refl _)).mono ?_
  rintro e w4 ⟨hp, hb4⟩
  unfold ReadP at hp
  rw [k_read.2] at hp
  obtain ⟨p, q, rfl, ho1, ho2⟩ := hp
  have OV := Lib.hid ho1; have OB := Lib.hid ho2
  have C4 := Lib.hid (Nat.le_trans C3.out hb4.size)
  have B4 := Lib.hid (B3.out.trans (hb4.mono B3.out.size)); have HL4 := Lib.hid (HL3.out.below (hb4.mono C3.out))
  clear hb4 ho1 ho2
  obtain ⟨A, c⟩ := p; obtain ⟨A', c'⟩ := q
  rw [show cdv cd1 (A, c) (A', c') = .agg #[.slice A 0 c, .int .i64 0, .slice A' 1 c'] from rfl]
  go_upto_region 4 with (fail)
  obtain ⟨b0_, hb_⟩ := boxes1 w4 (.cells #[.slice A 0 c, .int .i64 0, .slice A' 1 c'] 25)
  generalize w4.alloc (.cells #[.slice A 0 c, .int .i64 0, .slice A' 1 c'] 25) = w5 at *
  have T4 : Hid (∀ W, Below w5.heap.size w5 W → W.cell? ⟨w4.heap.size, 0, none⟩ = some (.slice A 0 c) ∧ W.cell? ⟨w4.heap.size, 1, none⟩ = some (.int .i64 0) ∧ W.cell? ⟨w4.heap.size, 2, none⟩ = some (.slice A' 1 c')) := Lib.hid (fun W hW => by have e := (hW.block _ (lt_blk b0_)).trans b0_; exact ⟨by rw [cell_blk e]; rfl, by rw [cell_blk e]; rfl, by rw [cell_blk e]; rfl⟩)
  have B5 := Lib.hid hb_
  clear hb_ b0_
  have C5 := Lib.hid (Nat.le_trans C4.out B5.out.size)
  have HL5 := Lib.hid (HL4.out.below (B5.out.mono C4.out)); have B5' := Lib.hid (B4.out.trans (B5.out.mono B4.out.size))
  have OV := Lib.hid (OV.out.below B5.out); have OB := Lib.hid (OB.out.below B5.out)
  go_wp2_with fail
  refine (awake_any w5).mono ?_
  rintro e w6 ⟨rfl, hb6⟩
  obtain ⟨t0, t1, t2⟩ := T4.out (w6.alloc (.cells #[.slice none 0 0, .int .i64 0, .slice none 0 0] 57)) (hb6.trans ((below_alloc _ _).mono hb6.size))
  obtain ⟨t3, t4, t5⟩ := T4.out w6 hb6
  have C6 := Lib.hid (Nat.le_trans C5.out hb6.size)
  have HL6 := Lib.hid (HL5.out.below (hb6.mono C5.out)); have B6 := Lib.hid (B5'.out.trans (hb6.mono B5'.out.size))
  have OV := Lib.hid (OV.out.below hb6); have OB := Lib.hid (OB.out.below hb6)
  clear hb6
  go_wp2_with fail
  have hb7 := below_alloc w6 (.cells #[.slice none 0 0, .int .i64 0, .slice none 0 0] 57)
  have h7 : One1 (w6.alloc (.cells #[.slice none 0 0, .int .i64 0, .slice none 0 0] 57)) w6.heap.size := heap_alloc_new _ _
  generalize w6.alloc (.cells #[.slice none 0 0, .int .i64 0, .slice none 0 0] 57) = w7 at *
  have HS := code_same cd1 cd1 cd1_ok.1 cd1_ok.1 (A, c) (A', c') (none, 0) (some ⟨w6.heap.size, 0, none⟩, 1) w7.heap.size w7 (OV.out.below hb7).at (OB.out.below hb7).at ⟨fun i hi => absurd hi (Nat.not_lt_zero _), fun _ => rfl, Nat.le_refl _⟩ h7.at (Nat.le_refl _)
  rw [Cd.eq_refl] at HS
  have C7 := Lib.hid (Nat.le_trans C6.out hb7.size)
  have HL7 := Lib.hid (HL6.out.below (hb7.mono C6.out)); have B7 := Lib.hid (B6.out.trans (hb7.mono B6.out.size))
  clear h7 hb7 t0 t1 t2 t3 t4 t5
  refine HS.mono ?_
  rintro e w8 ⟨rfl, hb8⟩
  have C8 := Lib.hid (Nat.le_trans C7.out hb8.size)
  have HL8 := Lib.hid (HL7.out.below (hb8.mono C7.out)); have B8 := Lib.hid (B7.out.trans (hb8.mono B7.out.size))
  clear hb8 HS OV OB T4
  go_wp2_with fail
  have hb9 := below_alloc w8 (.cells #[.slice none 0 0, .int .i64 65, .slice none 0 0] 57)
  have h9 := bds_one (heap_alloc_new w8 (.cells #[.slice none 0 0, .int .i64 65, .slice none 0 0] 57))
  generalize w8.alloc (.cells #[.slice none 0 0, .int .i64 65, .slice none 0 0] 57) = w9 at *
  have HS := check_any c65 c65_ok.1 c65_ok.2 (none, 0) (some ⟨w8.heap.size, 0, none⟩, 1) w9.heap.size w9 ⟨fun i hi => absurd hi (Nat.not_lt_zero _), fun _ => rfl, Nat.le_refl _⟩ h9 (Nat.le_refl _)
  rw [k_chk.1] at HS
  have C9 := Lib.hid (Nat.le_trans C8.out hb9.size)
  have HL9 := Lib.hid (HL8.out.below (hb9.mono C8.out)); have B9 := Lib.hid (B8.out.trans (hb9.mono B8.out.size))
  clear h9 hb9
  refine HS.mono ?_
  rintro e v0 ⟨rfl, hb⟩
  have C0 := Lib.hid (Nat.le_trans C9.out hb.size)
  have HL0 := Lib.hid (HL9.out.below (hb.mono C9.out)); have B0 := Lib.hid (B9.out.trans (hb.mono B9.out.size))
  clear hb HS
  go_wp2_with fail
  refine (one_any ⟨[], 7, 0, 1, 0⟩ (none, 0) v0.heap.size v0 ⟨fun i hi => absurd hi (Nat.not_lt_zero _), fun _ => rfl, Nat.le_refl _⟩ (Nat.le_refl _)).mono ?_
  rintro e v1 ⟨pv1, qv1, rfl, r1, r2, hb⟩
  obtain ⟨A1v1, c1v1⟩ := pv1; obtain ⟨A2v1, c2v1⟩ := qv1
  have HS := chk_one ⟨[], 7, 0, 1, 0⟩ (by decide) (fun i hi => absurd hi (Nat.not_lt_zero _)) (A1v1, c1v1) (A2v1, c2v1) v1 r1 r2
  rw [show chk (oneC ⟨[], 7, 0, 1, 0⟩) = 0 from k_chk.2.1] at HS
  rw [show cdv (oneC ⟨[], 7, 0, 1, 0⟩) (A1v1, c1v1) (A2v1, c2v1) = .agg #[.slice A1v1 1 c1v1, .int .i64 0, .slice A2v1 1 c2v1] from rfl] at HS ⊢
  have C1 := Lib.hid (Nat.le_trans C0.out hb.size)
  have HL1 := Lib.hid (HL0.out.below (hb.mono C0.out)); have B1 := Lib.hid (B0.out.trans (hb.mono B0.out.size))
  have HSh := Lib.hid HS
  clear hb r1 r2 HS
  go_wp2_with fail
  refine HSh.out.mono ?_
  rintro e v2 ⟨rfl, hb⟩
  have C2 := Lib.hid (Nat.le_trans C1.out hb.size)
  have HL2 := Lib.hid (HL1.out.below (hb.mono C1.out)); have B2 := Lib.hid (B1.out.trans (hb.mono B1.out.size))
  clear hb HSh
  go_wp2_with fail
  refine (one_any ⟨[], 7, 0, 2, 0⟩ (none, 0) v2.heap.size v2 ⟨fun i hi => absurd hi (Nat.not_lt_zero _), fun _ => rfl, Nat.le_refl _⟩ (Nat.le_refl _)).mono ?_
  rintro e v3 ⟨pv3, qv3, rfl, r1, r2, hb⟩
  obtain ⟨A1v3, c1v3⟩ := pv3; obtain ⟨A2v3, c2v3⟩ := qv3
  have HS := chk_one ⟨[], 7, 0, 2, 0⟩ (by decide) (fun i hi => absurd hi (Nat.not_lt_zero _)) (A1v3, c1v3) (A2v3, c2v3) v3 r1 r2
  rw [show chk (oneC ⟨[], 7, 0, 2, 0⟩) = 2 from k_chk.2.2.1] at HS
  rw [show cdv (oneC ⟨[], 7, 0, 2, 0⟩) (A1v3, c1v3) (A2v3, c2v3) = .agg #[.slice A1v3 1 c1v3, .int .i64 0, .slice A2v3 1 c2v3] from rfl] at HS ⊢
  have C3 := Lib.hid (Nat.le_trans C2.out hb.size)
  have HL3 := Lib.hid (HL2.out.below (hb.mono C2.out)); have B3 := Lib.hid (B2.out.trans (hb.mono B2.out.size))
  have HSh := Lib.hid HS
  clear hb r1 r2 HS
  go_wp2_with fail
  refine HSh.out.mono ?_
  rintro e v4 ⟨rfl, hb⟩
  have C4 := Lib.hid (Nat.le_trans C3.out hb.size)
  have HL4 := Lib.hid (HL3.out.below (hb.mono C3.out)); have B4 := Lib.hid (B3.out.trans (hb.mono B3.out.size))
  clear hb HSh
  go_wp2_with fail
  refine (one_any ⟨[⟨1, 0, ⟨1, 1⟩⟩], 5, 0, 0, 0⟩ (some ⟨w.heap.size, 0, none⟩, 1) w0.heap.size v4 HL4.out C4.out).mono ?_
  rintro e v5 ⟨pv5, qv5, rfl, r1, r2, hb⟩
  obtain ⟨A1v5, c1v5⟩ := pv5; obtain ⟨A2v5, c2v5⟩ := qv5
  have HS := chk_one ⟨[⟨1, 0, ⟨1, 1⟩⟩], 5, 0, 0, 0⟩ (by decide) (fun i hi => by obtain rfl : i = 0 := (by simp at hi; omega); exact ⟨⟨by decide, by decide⟩, ⟨by decide, by decide⟩, by decide, by decide⟩) (A1v5, c1v5) (A2v5, c2v5) v5 r1 r2
  rw [show chk (oneC ⟨[⟨1, 0, ⟨1, 1⟩⟩], 5, 0, 0, 0⟩) = 9 from k_chk.2.2.2.1] at HS
  rw [show cdv (oneC ⟨[⟨1, 0, ⟨1, 1⟩⟩], 5, 0, 0, 0⟩) (A1v5, c1v5) (A2v5, c2v5) = .agg #[.slice A1v5 1 c1v5, .int .i64 0, .slice A2v5 1 c2v5] from rfl] at HS ⊢
  have C5 := Lib.hid (Nat.le_trans C4.out hb.size)
  have HL5 := Lib.hid (HL4.out.below (hb.mono C4.out)); have B5 := Lib.hid (B4.out.trans (hb.mono B4.out.size))
  have HSh := Lib.hid HS
  clear hb r1 r2 HS
  go_wp2_with fail
  refine HSh.out.mono ?_
  rintro e v6 ⟨rfl, hb⟩
  have C6 := Lib.hid (Nat.le_trans C5.out hb.size)
  have HL6 := Lib.hid (HL5.out.below (hb.mono C5.out)); have B6 := Lib.hid (B5.out.trans (hb.mono B5.out.size))
  clear hb HSh
  go_wp2_with fail
  have hx := below_alloc v6 (.cells #[.int .u8 31, .int .i64 0, .int .u8 0, .int .u64 0] 53)
  have h9 := ins_one (i := ⟨31, 0, ⟨0, 0⟩⟩) (heap_alloc_new v6 (.cells #[.int .u8 31, .int .i64 0, .int .u8 0, .int .u64 0] 53))
  generalize v6.alloc (.cells #[.int .u8 31, .int .i64 0, .int .u8 0, .int .u64 0] 53) = v6' at *
  have C6' := Lib.hid (Nat.le_trans C6.out hx.size); have B6' := Lib.hid (B6.out.trans (hx.mono B6.out.size)); have HR := Lib.hid h9
  clear hx h9
  refine (one_any ⟨[⟨31, 0, ⟨0, 0⟩⟩], 2, 0, 0, 0⟩ (some ⟨v6.heap.size, 0, none⟩, 1) v6'.heap.size v6' HR.out (Nat.le_refl _)).mono ?_
  rintro e v7 ⟨pp, qq, rfl, r1, r2, hb⟩
  obtain ⟨A1, c1⟩ := pp; obtain ⟨A2, c2⟩ := qq
  have HS := chk_one ⟨[⟨31, 0, ⟨0, 0⟩⟩], 2, 0, 0, 0⟩ (by decide) (fun i hi => by obtain rfl : i = 0 := (by simp at hi; omega); exact ⟨⟨by decide, by decide⟩, ⟨by decide, by decide⟩, by decide, by decide⟩) (A1, c1) (A2, c2) v7 r1 r2
  rw [show chk (oneC ⟨[⟨31, 0, ⟨0, 0⟩⟩], 2, 0, 0, 0⟩) = 190 from k_chk.2.2.2.2] at HS
  rw [show cdv (oneC ⟨[⟨31, 0, ⟨0, 0⟩⟩], 2, 0, 0, 0⟩) (A1, c1) (A2, c2) = .agg #[.slice A1 1 c1, .int .i64 0, .slice A2 1 c2] from rfl] at HS ⊢
  have B7' := Lib.hid (B6'.out.trans (hb.mono B6'.out.size)); have HSh := Lib.hid HS
  clear hb r1 r2 HS
  go_wp2_with fail
  refine HSh.out.mono ?_
  rintro e v8 ⟨rfl, hb⟩
  have B8' := Lib.hid (B7'.out.trans (hb.mono B7'.out.size))
  clear hb HSh
  go_wp2_with fail
  go_ret
  exact ⟨rfl, B8'.out⟩
end Go.Proofs.Ytbmpjphemjponaa
