/- Same, Token. -/
import Derived.Test.YtkdkpnidiehdfaaDoorLb
import Derived.Test.YtkdkpnidiehdfaaDoorKq
set_option linter.unusedSimpArgs false
set_option linter.unusedVariables false
namespace Go.Proofs.YtkdkpnidiehdfaaDoor
open Go.RowKit

/-- the bits in which the first t bytes differ. -/
def orx (a b : List UInt8) : Nat → UInt8
  | 0 => 0
  | t + 1 => orx a b t ||| (a.getD t 0 ^^^ b.getD t 0)
theorem or_zero (x y : UInt8) : x ||| y = 0 ↔ x = 0 ∧ y = 0 := by
  have h1 := UInt8.toBitVec_or x y
  constructor
  · intro h
    have : (x.toBitVec ||| y.toBitVec) = 0#8 := by rw [← h1, h]; rfl
    have h2 := BitVec.or_eq_zero_iff.1 this
    exact ⟨UInt8.eq_of_toBitVec_eq h2.1, UInt8.eq_of_toBitVec_eq h2.2⟩
  · rintro ⟨rfl, rfl⟩; rfl
theorem xor_zero (x y : UInt8) : x ^^^ y = 0 ↔ x = y := by
  constructor
  · intro h
    have h1 := UInt8.toBitVec_xor x y
    have : (x.toBitVec ^^^ y.toBitVec) = 0#8 := by rw [← h1, h]; rfl
    exact UInt8.eq_of_toBitVec_eq (BitVec.xor_eq_zero_iff.1 this)
  · rintro rfl; exact UInt8.xor_self
theorem orx_zero (a b : List UInt8) (t : Nat) : orx a b t = 0 ↔ ∀ i < t, a.getD i 0 = b.getD i 0 := by
  induction t with
  | zero => simp [orx]
  | succ t ih =>
    simp only [orx]
    rw [or_zero, ih, xor_zero]
    constructor
    · rintro ⟨h1, h2⟩ i hi
      by_cases e : i = t
      · subst e; exact h2
      · exact h1 i (by omega)
    · intro h; exact ⟨fun i hi => h i (by omega), h t (by omega)⟩
theorem orx_same (a b : List UInt8) (ha : a.length = 32) (hb : b.length = 32) : ((((orx a b 32).toNat : Int)) == 0) = decide (a = b) := by
  have h : (((orx a b 32).toNat : Int) = 0) ↔ a = b := by
    have e : (((orx a b 32).toNat : Int) = 0) ↔ orx a b 32 = 0 := by
      constructor
      · intro h; apply UInt8.toNat_inj.1; rw [UInt8.toNat_zero]; omega
      · intro h; rw [h]; rfl
    rw [e, orx_zero]
    constructor
    · intro H
      apply List.ext_getElem (by omega)
      intro i h1 h2
      have := H i (by omega)
      simpa [List.getD_eq_getElem?_getD, h1, h2] using this
    · rintro rfl _ _; rfl
  by_cases hh : a = b
  · rw [decide_eq_true hh, beq_iff_eq]; exact h.2 hh
  · rw [decide_eq_false hh, beq_eq_false_iff_ne]; exact fun e => hh (h.1 e)

set_option maxRecDepth 100000 in
set_option maxHeartbeats 1000000 in
theorem same_any (a b : List UInt8) (ha : a.length = 32) (hb : b.length = 32) (w : World) :
    Calls Tryd.prog 23 #[dg a, dg b] w fun e w' => e = .returned (.bool (decide (a = b))) ∧ Below w.heap.size w w' := by
  have Hs := Lib.hid (orx_same a b ha hb)
  have HA : Hid (∀ i, i < 32 → (bcells a).toArray[i]? = some (.int .u8 (a.getD i 0).toNat)) := Lib.hid (fun i hi => by simp [bcells, List.getD_eq_getElem?_getD, ha, hi])
  have HB : Hid (∀ i, i < 32 → (bcells b).toArray[i]? = some (.int .u8 (b.getD i 0).toNat)) := Lib.hid (fun i hi => by simp [bcells, List.getD_eq_getElem?_getD, hb, hi])
  unfold dg
  clear ha hb
  generalize (bcells a).toArray = xs at HA
  generalize (bcells b).toArray = ys at HB
  go_enter Tryd.func23, Tryd.ntmps23
  go_wp2_with fail
  generalize hw2 : World.alloc (World.alloc _ _) _ = w2
  have Hx : Hid (w2.heap[w.heap.size]? = some (.cells xs 25 (0, 0))) := Lib.hid (by subst hw2; exact alloc_blk (heap_alloc_new _ _) _)
  have Hy : Hid (w2.heap[w.heap.size + 1]? = some (.cells ys 25 (0, 0))) := Lib.hid (by subst hw2; exact alloc_new1 _ _ _ _)
  have Hb : Hid (Below w.heap.size w w2) := Lib.hid (by subst hw2; exact ((Below.refl _ _).alloc (Nat.le_refl _) _).alloc (by simp) _)
  clear hw2
  go_loopw [5, 7] (fun x i wr => ∃ t : Nat, t ≤ 32 ∧ x = .int .u8 (orx a b t).toNat ∧ i = .int .i64 t ∧ ∃ n, wr = w2.drewN n) (fun _ i _ => 32 - (intOf i).toNat)
  case atStart => exact ⟨0, by omega, rfl, rfl, 0, rfl⟩
  case round =>
    obtain ⟨t, ht, rfl, rfl, n, rfl⟩ := hrel
    by_cases hlt : t < 32
    · have c1 : w2.cell? ⟨w.heap.size, t, none⟩ = some (.int .u8 (a.getD t 0).toNat) := by rw [cell_blk Hx.out, HA.out t hlt]
      have c2 : w2.cell? ⟨w.heap.size + 1, t, none⟩ = some (.int .u8 (b.getD t 0).toNat) := by rw [cell_blk Hy.out, HB.out t hlt]
      have ho : Hid (orx a b (t + 1) = orx a b t ||| (a.getD t 0 ^^^ b.getD t 0)) := Lib.hid rfl
      generalize a.getD t 0 = p at *
      generalize b.getD t 0 = q at *
      generalize orx a b t = x at *
      have e1 := u8_xor p q
      generalize p ^^^ q = pq at *
      have e2 := u8_or x pq
      generalize x ||| pq = xx at *
      go_wp2_with fail
      go_quiet (fail)
      go_wp2_with fail
      go_roundw
      case rel => exact ⟨t + 1, by omega, by rw [ho.out], by go_num, _, rfl⟩
      case measure => simp [intOf]; omega
    · obtain rfl : t = 32 := by omega
      go_wp2_with fail
      go_ret
      exact ⟨ret_bool Hs.out, below_drewN Hb.out _⟩

set_option maxRecDepth 100000 in
set_option maxHeartbeats 1000000 in
theorem token_any (l : List UInt8) (hl : l.length ≤ 100000000) (A : Option Addr) (cap : Nat) (d : List UInt8) (hd : d.length = 32) (w : World) (hA : Bs w w.heap.size A l) (hk : KMem w) :
    Calls Tryd.prog 24 #[.slice A l.length cap, dg d] w fun e w' => e = .returned (.bool (decide (sha l = d))) ∧ Below w.heap.size w w' := by
  have HA := Lib.hid hA; have HK := Lib.hid hk; have HL := Lib.hid hl; have HD := Lib.hid hd
  have Hfin := Lib.hid (finish_sha l)
  have Hsl := Lib.hid (sha_length l)
  clear hA hk hl
  have Hdg : Hid (dg d = .agg (bcells d).toArray) := Lib.hid rfl
  have Hsz : Hid ((bcells d).toArray.size = 32) := Lib.hid (by simp [bcells, hd])
  clear hd
  rw [Hdg.out]
  go_enter Tryd.func24, Tryd.ntmps24
  go_wp2_with fail
  generalize hw2 : World.alloc _ _ = w2
  have Hx : Hid (w2.heap[w.heap.size]? = some (.cells (bcells d).toArray 25 (0, 0))) := Lib.hid (by subst hw2; exact heap_alloc_new _ _)
  have Hb : Hid (Below w.heap.size w w2) := Lib.hid (by subst hw2; exact (Below.refl _ _).alloc (Nat.le_refl _) _)
  clear hw2
  generalize (bcells d).toArray = xs at *
  have Hrd : Hid (∀ W, Below w2.heap.size w2 W → W.heap[w.heap.size]? = some (.cells xs 25 (0, 0))) := Lib.hid (fun W hW => (hW.block _ (lt_blk Hx.out)).trans Hx.out)
  refine wp_region_quiet (C := fun W => Below w2.heap.size w2 W) (by kernel_rfl) (by kernel_rfl) (below_drew _) ?_
  refine wpQuiet_step (fun K hK => ?_); go_simp; refine ⟨_, fun _ _ => rfl, hK _ ?_⟩; clear hK K
  refine wpQuiet_step (fun K hK => ?_); go_simp
  refine ⟨_, fun W hW => (dig_sum l HL.out A cap W (((HA.out.below Hb.out).more Hb.out.size |>.below hW).more hW.size) (KMem.below (KMem.below HK.out Hb.out HK.out.pos) hW (by have := HK.out.pos; have := Hb.out.size; omega))).mono fun e W' ⟨he, hb⟩ => ⟨by rw [he, Hfin.out], hW.trans (hb.mono hW.size)⟩, hK _ ?_⟩
  clear hK K
  refine q_row rfl _ _ rfl w.heap.size rfl 25 xs _ _ Hrd.out Tryd.underlying25 rfl (by rw [Hsz.out]; kernel_rfl) ?_
  rw [← Hdg.out]
  refine wpQuiet_step (fun K hK => ?_); go_simp
  refine ⟨_, fun W hW => (same_any (sha l) d Hsl.out HD.out W).mono fun e W' ⟨he, hb⟩ => ⟨he, hW.trans (hb.mono hW.size)⟩, hK _ ?_⟩; clear hK K
  refine wpQuiet_step (fun K hK => ?_); go_simp; refine ⟨_, fun _ _ => rfl, hK _ ?_⟩; clear hK K
  refine wpQuiet_nil ?_
  intro W hW
  have HW := Lib.hid hW
  clear hW
  go_wp2_with fail
  go_ret
  exact ⟨rfl, Hb.out.trans (HW.out.mono Hb.out.size)⟩
end Go.Proofs.YtkdkpnidiehdfaaDoor
