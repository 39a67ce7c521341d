/- (*code.reader).value, values. -/
import Derived.Test.YtbmpjphemjponaaWr
import Derived.Test.YtbmpjphemjponaaWa
set_option linter.unusedSimpArgs false
set_option linter.unusedVariables false
namespace Go.Proofs.Ytbmpjphemjponaa
open Go.RowKit

theorem RdS.keep {w w' : World} {g : Nat} {s : Rst} {L : Nat} (h : RdS w g s) (hb : Below L w w') (hL : g < L) : RdS w' g s := by
  obtain ⟨A, cap, h1, h2, h3⟩ := h
  exact ⟨A, cap, (hb.block g hL).trans h1, h2.below (hb.mono (Nat.le_of_lt hL)), h3⟩
theorem RK.later {w w2 w3 : World} {g : Nat} (h : RK g w w2) (hg : g ≤ w.heap.size) (hb : Below w.heap.size w2 w3) : RK g w w3 :=
  ⟨⟨Nat.le_trans h.1.1 hb.size, fun k cs e fz hne hk => (hb.block k (lt_blk hk)).trans (h.1.2 k cs e fz hne hk)⟩, h.2.trans (hb.mono hg)⟩
theorem below_set1 (w : World) (g i : Nat) (x : Value) : Below g w (w.setCell ⟨g, i, none⟩ x) := Below.setCell (p := ⟨g, i, none⟩) (Below.refl _ _) (Nat.le_refl _) x
theorem below_set2 (w : World) (g : Nat) (x y : Value) : Below g w ((w.setCell ⟨g, 0, none⟩ x).setCell ⟨g, 1, none⟩ y) := Below.setCell (p := ⟨g, 1, none⟩) (below_set1 w g 0 x) (Nat.le_refl _) y
theorem u8_back (n : Nat) (h : n < 256) : IntKind.u8.wrap (IntKind.i64.wrap (n : Int)) = n := by
  rw [wi64 _ (by omega) (by omega), wrap_u8_mod]; omega
theorem u64_back (n : Nat) (h : n < 18446744073709551616) : IntKind.u64.wrap (IntKind.i64.wrap (n : Int)) = n := by
  rw [IntKind.wrap_i64, IntKind.wrap_u64]; omega
set_option maxRecDepth 100000 in
set_option maxHeartbeats 1000000 in
theorem value_rd (s : Rst) (g : Nat) (w : World) (hs : RdS w g s) :
    Calls Try.prog 69 #[.pointer (some ⟨g, 0, none⟩)] w fun e w' => e = .returned (.agg #[.int .u8 (rdV s).1.t, .int .u64 (rdV s).1.b]) ∧ RdS w' g (rdV s).2 ∧ RK g w w' := by
  have HS := Lib.hid hs
  have hg := hs.lt
  have HV : Hid (rdV s = (⟨(rdN 1 s).1, (rdN 8 (rdN 1 s).2).1⟩, (rdN 8 (rdN 1 s).2).2)) := Lib.hid rfl
  have l1 := rdN_lt 1 s; have l8 := rdN_lt 8 (rdN 1 s).2
  have l8 : (rdN 8 (rdN 1 s).2).1 < 18446744073709551616 := Nat.lt_of_lt_of_le l8 (by decide)
  have n1 := fun W h => number_rd 1 (by omega) (by omega) s g W h
  have n8 := fun W h => number_rd 8 (by omega) (by omega) (rdN 1 s).2 g W h
  have N1 := Lib.hid n1; have N8 := Lib.hid n8
  clear hs n1 n8
  generalize rdN 8 (rdN 1 s).2 = r8 at *
  generalize rdN 1 s = r1 at *
  obtain ⟨t, s1⟩ := r1
  obtain ⟨b, s2⟩ := r8
  dsimp only at *
  rw [HV.out]
  have e1 := u8_back t (by omega)
  have e8 := u64_back b (by omega)
  clear HV l1 l8
  go_enter Try.func69, Try.ntmps69
  go_upto_region 1 with (fail)
  obtain ⟨b0_, hb_⟩ := boxes1 w (.cells #[.int .u8 0, .int .u64 0] 51)
  generalize w.alloc (.cells #[.int .u8 0, .int .u64 0] 51) = w0 at *
  have T0b : Hid (∀ W, Below w0.heap.size w0 W → W.heap[w.heap.size]? = some (.cells #[.int .u8 0, .int .u64 0] 51 (0, 0))) := Lib.hid (fun W hW => (hW.block _ (lt_blk b0_)).trans b0_)
  have T0 : Hid (∀ W, Below w0.heap.size w0 W → W.cell? ⟨w.heap.size, 0, none⟩ = some (.int .u8 0) ∧ W.cell? ⟨w.heap.size, 1, none⟩ = some (.int .u64 0)) := Lib.hid (fun W hW => by have e := (hW.block _ (lt_blk b0_)).trans b0_; exact ⟨by rw [cell_blk e]; rfl, by rw [cell_blk e]; rfl⟩)
  have BA := Lib.hid hb_
  clear hb_ b0_
  go_wp2_with fail
  refine (N1.out _ (HS.out.below BA.out)).mono ?_
  rintro e w1 ⟨rfl, hr1, hk1⟩
  have R1 := Lib.hid hr1; have K1 := Lib.hid ((RK.of_below BA.out (Nat.le_of_lt hg)).trans hk1)
  have X1 := Lib.hid (hk1.blk (by decide) (T0b.out w0 (Below.refl _ _)))
  clear hr1 hk1
  go_wp2_with fail
  refine (N8.out _ R1.out).mono ?_
  rintro e w2 ⟨rfl, hr2, hk2⟩
  have R2 := Lib.hid hr2; have K2 := Lib.hid (K1.out.trans hk2)
  have X2 := Lib.hid (hk2.blk (by decide) X1.out)
  clear hr2 hk2
  have c0 : w2.cell? ⟨w.heap.size, 0, none⟩ = some (.int .u8 0) := by rw [cell_blk X2.out]; rfl
  have c1 : w2.cell? ⟨w.heap.size, 1, none⟩ = some (.int .u64 0) := by rw [cell_blk X2.out]; rfl
  have fz : ∀ j, w2.frozen? ⟨w.heap.size, j, none⟩ = false := fun j => free_blk X2.out j
  go_wp2_with fail
  have G : Below w.heap.size w2 ((w2.setCell ⟨w.heap.size, 0, none⟩ (.int .u8 t)).setCell ⟨w.heap.size, 1, none⟩ (.int .u64 b)) := below_set2 _ _ _ _
  exact bodyPost_ret (v := .agg #[.int .u8 t, .int .u64 b]) (by simp [results, Try.results69, go_sem, c0, c1]) rfl ⟨rfl, R2.out.keep G hg, K2.out.later (Nat.le_of_lt hg) G⟩
/-- what is read: an own row. -/
def GotVs (L g : Nat) (l : List Vl) (s : Rst) (w : World) (e : Ending) (w' : World) : Prop := ∃ p : Slc, e = .returned (.slice p.1 l.length p.2) ∧ OwV w' L p l ∧ RdS w' g s ∧ RK g w w'
theorem OwV.rk {w w' : World} {L g : Nat} {p : Slc} {l : List Vl} (h : OwV w L p l) (hk : RK g w w') : OwV w' L p l := h.spares hk.1 (by decide)
set_option maxRecDepth 100000 in
set_option maxHeartbeats 2000000 in
theorem values_rd (s : Rst) (g : Nat) (w : World) (hs : RdS w g s) :
    Calls Try.prog 42 #[.pointer (some ⟨g, 0, none⟩)] w (GotVs w.heap.size g (rdVs s).1 (rdVs s).2 w) := by
  have HS := Lib.hid hs
  have hg := hs.lt
  have HV : Hid (rdVs s = rdL rdV (rdN 1 s).1 (rdN 1 s).2 []) := Lib.hid rfl
  have l1 := rdN_lt 1 s
  have n1 := fun W h => number_rd 1 (by omega) (by omega) s g W h
  have N1 := Lib.hid n1
  have HVL := Lib.hid (fun W s h => value_rd s g W h)
  clear hs n1
  generalize rdN 1 s = r1 at *
  generalize rdVs s = total at *
  obtain ⟨n, s1⟩ := r1
  dsimp only at *
  have wn : IntKind.i64.wrap (n : Int) = n := wi64 _ (by omega) (by omega)
  go_enter Try.func42, Try.ntmps42
  go_wp2_with fail
  refine (N1.out _ HS.out).mono ?_
  rintro e w1 ⟨rfl, hr1, hk1⟩
  have R1 := Lib.hid hr1; have K1 := Lib.hid hk1
  clear hr1 hk1
  go_wp2_with fail
  clear wn
  go_loopw [3, 4] (fun u iv wr => ∃ (k : Nat) (s2 : Rst) (acc : List Vl) (p : Slc), u = .slice p.1 acc.length p.2 ∧ iv = .int .i64 k ∧ k ≤ 255 ∧ acc.length ≤ 255 - k ∧ total = rdL rdV k s2 acc ∧ OwV wr w.heap.size p acc ∧ RdS wr g s2 ∧ RK g w wr) (fun _ iv _ => (intOf iv).toNat)
  case atStart => exact ⟨n, s1, [], (none, 0), rfl, by first | rfl | go_num, by omega, by simp, HV.out, ⟨rfl, .inl ⟨rfl, rfl⟩⟩, R1.out, K1.out⟩
  case round =>
    obtain ⟨k, s2, acc, p, rfl, rfl, hk, hac, ht, ho, hr, hkk⟩ := hrel
    have HT := Lib.hid ht; have HO := Lib.hid ho; have HR := Lib.hid hr; have HK := Lib.hid hkk
    have hsz := HK.out.1.1
    clear ht ho hr hkk
    obtain ⟨A, cp⟩ := p
    dsimp only at *
    by_cases h0 : k = 0
    · subst h0
      have d : decide ((0 : Int) < ((0 : Nat) : Int)) = false := rfl
      go_wp2_with fail
      go_ret
      exact ⟨(A, cp), by rw [HT.out]; rfl, by rw [HT.out]; exact HO.out, by rw [HT.out]; exact HR.out, HK.out⟩
    obtain ⟨k', rfl⟩ : ∃ k', k = k' + 1 := ⟨k - 1, by omega⟩
    have d : decide ((0 : Int) < ((k' + 1 : Nat) : Int)) = true := decide_eq_true (by omega)
    obtain ⟨Ar, capr, x1, -⟩ := HR.out
    have c1 : wr.cell? ⟨g, 1, none⟩ = some (.bool s2.2) := by rw [cell_blk x1]; rfl
    clear x1
    have HT1 : Hid (total = if s2.2 = true then (acc, s2) else rdL rdV k' (rdV s2).2 (acc ++ [(rdV s2).1])) := Lib.hid HT.out
    generalize hb : s2.2 = bad at *
    have HB := Lib.hid hb
    clear hb
    cases bad
    rotate_left
    · have HE : Hid (total = (acc, s2)) := Lib.hid (by rw [HT1.out]; rfl)
      go_wp2_with fail
      go_ret
      exact ⟨(A, cp), by rw [HE.out]; rfl, by rw [HE.out]; exact HO.out, by rw [HE.out]; exact HR.out, HK.out⟩
    have HE : Hid (total = rdL rdV k' (rdV s2).2 (acc ++ [(rdV s2).1])) := Lib.hid (by rw [HT1.out]; rfl)
    clear HT HT1
    have HVk := Lib.hid (HVL.out wr s2 HR.out)
    generalize rdV s2 = rv at *
    obtain ⟨⟨t, bt⟩, s3⟩ := rv
    dsimp only at *
    go_wp2_with fail
    refine HVk.out.mono ?_
    rintro e w3 ⟨rfl, hr3, hk3⟩
    have R3 := Lib.hid hr3; have K3 := Lib.hid (HK.out.trans hk3); have O3 := Lib.hid (HO.out.rk hk3)
    have hB3 : w.heap.size ≤ w3.heap.size := K3.out.1.1
    clear hr3 hk3 c1 d
    go_wp2_with (at_builtin; refine wpList_append_oneS ESV [.int .u8 t, .int .u64 bt] _ rfl rfl (.tmp 18) (.tmp 21) rfl w.heap.size (by intro u hu; simp at hu; rcases hu with rfl | rfl <;> rfl) 1 rfl (.slice A acc.length cp) acc.length (acc.flatMap vc) rfl O3.out rfl (by omega) (by omega) w3 hB3 (Below.refl _ _) ?_; intro v' w' h2 h3 h4 h5; clear h5 h4; have h6 := own_sv h2; obtain ⟨p', rfl, h6⟩ := h6; unfold sv at h6 ⊢; have O4 := Lib.hid h6; have B4 := Lib.hid h3; clear h6 h2 h3)
    go_roundw
    case rel => exact ⟨k', s3, acc ++ [⟨t, bt⟩], p', by rw [List.length_append]; rfl, by go_num, by omega, by rw [List.length_append, List.length_singleton]; omega, HE.out, by unfold OwV sv; rw [List.length_append, List.flatMap_append]; exact O4.out, R3.out.keep B4.out hg, K3.out.later (Nat.le_of_lt hg) B4.out⟩
    case measure => simp [intOf]
end Go.Proofs.Ytbmpjphemjponaa
