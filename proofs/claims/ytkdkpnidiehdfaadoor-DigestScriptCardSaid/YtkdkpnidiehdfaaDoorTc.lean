/- a digest of its text, by the program. -/
import Derived.Test.YtkdkpnidiehdfaaDoorTb
set_option linter.unusedSimpArgs false
set_option linter.unusedVariables false
namespace Go.Proofs.YtkdkpnidiehdfaaDoor
open Go.RowKit

theorem wu8 (n : Int) (h : 0 ≤ n) (h' : n < 256) : IntKind.u8.wrap n = n := by simp [IntKind.wrap, IntKind.bits, IntKind.signed]; omega
set_option maxHeartbeats 400000 in
theorem value_any (c : UInt8) (w : World) : Calls Tryd.prog 61 #[.int .u8 c.toNat] w fun e w' => e = .returned (.tuple #[.int .u8 (valN c).toNat, .bool (valB c)]) ∧ w = w' := by
  have hn := valN_toNat c
  have hc := u8_lt c
  have hb : valB c = ((decide (48 ≤ c.toNat) && decide (c.toNat ≤ 57)) || (decide (97 ≤ c.toNat) && decide (c.toNat ≤ 102))) := rfl
  by_cases h1 : 48 ≤ c.toNat ∧ c.toNat ≤ 57
  · rw [if_pos h1] at hn
    have Hn : Hid (((valN c).toNat : Int) = (c.toNat : Int) - 48) := Lib.hid (by omega)
    have Hb : Hid (valB c = true) := Lib.hid (by rw [hb]; simp; omega)
    have d1 : decide ((48 : Int) ≤ c.toNat) = true := by simp; omega
    have d2 : decide ((c.toNat : Int) ≤ 57) = true := by simp; omega
    have e1 := wu8 ((c.toNat : Int) - 48) (by omega) (by omega)
    clear hn hb
    go_enter Tryd.func61, Tryd.ntmps61
    go_wp2
    go_ret2
    exact ⟨by rw [Hn.out, Hb.out]; rfl, rfl⟩
  · by_cases h2 : 97 ≤ c.toNat ∧ c.toNat ≤ 102
    · rw [if_neg h1, if_pos h2] at hn
      have Hn : Hid (((valN c).toNat : Int) = (c.toNat : Int) - 97 + 10) := Lib.hid (by omega)
      have Hb : Hid (valB c = true) := Lib.hid (by rw [hb]; simp; omega)
      have d1 : decide ((48 : Int) ≤ c.toNat) = true := by simp; omega
      have d2 : decide ((c.toNat : Int) ≤ 57) = false := by simp; omega
      have d3 : decide ((97 : Int) ≤ c.toNat) = true := by simp; omega
      have d4 : decide ((c.toNat : Int) ≤ 102) = true := by simp; omega
      have e1 := wu8 ((c.toNat : Int) - 97) (by omega) (by omega)
      have e2 := wu8 ((c.toNat : Int) - 97 + 10) (by omega) (by omega)
      clear hn hb
      go_enter Tryd.func61, Tryd.ntmps61
      go_wp2
      go_ret2
      exact ⟨by rw [Hn.out, Hb.out]; rfl, rfl⟩
    · rw [if_neg h1, if_neg h2] at hn
      have Hn : Hid (((valN c).toNat : Int) = 0) := Lib.hid (by omega)
      have Hb : Hid (valB c = false) := Lib.hid (by rw [hb]; simp; omega)
      clear hn hb
      by_cases h3 : 48 ≤ c.toNat
      · have d1 : decide ((48 : Int) ≤ c.toNat) = true := by simp; omega
        have d2 : decide ((c.toNat : Int) ≤ 57) = false := by simp; omega
        by_cases h4 : 97 ≤ c.toNat
        · have d3 : decide ((97 : Int) ≤ c.toNat) = true := by simp; omega
          have d4 : decide ((c.toNat : Int) ≤ 102) = false := by simp; omega
          go_enter Tryd.func61, Tryd.ntmps61
          go_wp2
          go_ret2
          exact ⟨by rw [Hn.out, Hb.out]; rfl, rfl⟩
        · have d3 : decide ((97 : Int) ≤ c.toNat) = false := by simp; omega
          go_enter Tryd.func61, Tryd.ntmps61
          go_wp2
          go_ret2
          exact ⟨by rw [Hn.out, Hb.out]; rfl, rfl⟩
      · have d1 : decide ((48 : Int) ≤ c.toNat) = false := by simp; omega
        have d3 : decide ((97 : Int) ≤ c.toNat) = false := by simp; omega
        go_enter Tryd.func61, Tryd.ntmps61
        go_wp2
        go_ret2
        exact ⟨by rw [Hn.out, Hb.out]; rfl, rfl⟩

theorem results_cell_tmp {P : Program} {fn : Func} {p t : Tmp} {ty : TypeId} (h : fn.results = #[.cell p ty, .tmp t]) (tmps : Array Value) (w : World) (g : Nat) (T : TypeId) (cs : Array Value) (fr : Nat × Nat) (d : TypeDesc)
    (hp : tmps.getD p undef = .pointer (some ⟨g, 0, none⟩)) (hg : w.heap[g]? = some (.cells cs T fr))
    (hu : P.underlying ty = some d) (hd : (match d with | .struct _ | .array _ _ => true | _ => false) = true) (hi : (P.info? ty).map (·.size) = some cs.size) :
    (results fn tmps).run P w = .ok (.tuple #[.agg cs, tmps.getD t undef]) w := by
  have hp' : tmps[p]?.getD undef = .pointer (some ⟨g, 0, none⟩) := by simpa using hp
  simp [results, h, hp', asAddr, run_loadVar_row w g T ty cs fr d hg hu hd hi]
theorem nib_or (x y : UInt8) (hx : x.toNat < 16) (hy : y.toNat < 16) : bits .or .u8 ((x.toNat : Int) * 16 % 256) (y.toNat : Int) = ((16 * x.toNat + y.toNat : Nat) : Int) := by
  have h1 : ((UInt8.ofNat (16 * x.toNat)).toNat : Int) = (x.toNat : Int) * 16 % 256 := by rw [UInt8.toNat_ofNat']; omega
  have h2 : (UInt8.ofNat (16 * x.toNat)).toNat = 16 * x.toNat := by rw [UInt8.toNat_ofNat']; omega
  rw [← h1, u8_or, UInt8.toNat_or, h2]
  have := Nat.two_pow_add_eq_or_of_lt (i := 4) hy x.toNat
  simp only [Nat.reducePow] at this
  rw [← this]
theorem ba_get (s : ByteArray) (i : Nat) (h : i < s.size) : s[i] = s.data.toList.getD i 0 := by
  rw [List.getD_eq_getElem?_getD, List.getElem?_eq_getElem (by simpa using h)]; rfl

set_option maxRecDepth 100000 in
set_option maxHeartbeats 16000000 in
theorem parse_any (s : ByteArray) (w : World) :
    Calls Tryd.prog 30 #[.string s] w fun e w' => e = .returned (.tuple #[dg (parseD s.data.toList), .int .i64 (parseE s.data.toList)]) ∧ Below w.heap.size w w' := by
  have hz := zeros_dg
  have Hsz : Hid ((bcells zeros32).toArray.size = 32) := Lib.hid rfl
  have Hone : Hid ((bcells zeros32).toArray.all (·.oneCell') = true) := Lib.hid (by
    rw [Array.all_eq_true_iff_forall_mem]; intro x hx; exact bcells_one _ x (by simpa using hx))
  have Hdg : Hid (dg zeros32 = .agg (bcells zeros32).toArray) := Lib.hid rfl
  have Hp0 : Hid (plist s.data.toList 0 = zeros32) := Lib.hid rfl
  have Hno : Hid (parseOk s.data.toList = false → dg (parseD s.data.toList) = dg zeros32 ∧ parseE s.data.toList = 4) := Lib.hid (fun h => by simp [parseD, parseE, h, zeros32])
  rw [Hdg.out] at hz
  injection hz with hz
  have Hz := Lib.hid hz
  clear hz
  go_enter Tryd.func30, Tryd.ntmps30
  go_upto_region 2 with (fail)
  rw [← Hz.out]
  generalize hw1 : w.alloc (.cells _ 25) = w1
  generalize hw2 : w1.alloc (.cells _ 25) = w2
  have Hr : Hid (w2.heap[w.heap.size]? = some (.cells (bcells zeros32).toArray 25 (0, 0))) := Lib.hid (by subst hw2 hw1; exact alloc_blk (heap_alloc_new _ _) _)
  have Hd : Hid (w2.heap[w.heap.size + 1]? = some (.cells (bcells zeros32).toArray 25 (0, 0))) := Lib.hid (by
    subst hw2 hw1
    exact alloc_new1 _ _ _ _)
  have Hb : Hid (Below w.heap.size w w2) := Lib.hid (by subst hw2 hw1; exact ((Below.refl _ _).alloc (Nat.le_refl _) _).alloc (by simp) _)
  clear hw1 hw2
  generalize hr : w.heap.size = r
  rw [hr] at Hr Hd Hb
  have HR := Lib.hid hr
  clear hr
  by_cases hl : s.size = 64
  · have hne : ((s.size : Int) != 64) = false := by rw [bne_eq_false_iff_eq]; omega
    have Hl : Hid (s.data.toList.length = 64) := Lib.hid (by simpa using hl)
    have HLs : Hid (∀ i (h : i < s.size), s[i] = s.data.toList.getD i 0) := Lib.hid (ba_get s)
    generalize hls : s.data.toList = l at *
    have Hls := Lib.hid hls
    clear hls
    have hl64 : s.size ≤ 64 := by omega
    have hl46 : 64 ≤ s.size := by omega
    have Hl2 := Lib.hid hl
    clear hl
    generalize hzs : (bcells zeros32).toArray = zs at *
    have Hzs := Lib.hid hzs
    clear hzs
    go_wp2_with fail
    go_loopw [14] (fun i wr => ∃ t : Nat, t ≤ 32 ∧ i = .int .i64 t ∧ pokB l (2 * t) = true ∧ wr.heap[r + 1]? = some (.cells (bcells (plist l t)).toArray 25 (0, 0)) ∧ wr.heap[r]? = some (.cells zs 25 (0, 0)) ∧ Below r w wr) (fun i _ => 32 - (intOf i).toNat)
    case atStart => exact ⟨0, by omega, rfl, rfl, by rw [Hp0.out, Hzs.out]; exact Hd.out, Hr.out, Hb.out⟩
    case round =>
      obtain ⟨t, ht, rfl, hpk, hd, hr, hb⟩ := hrel
      have Hpk := Lib.hid hpk; have Hdr := Lib.hid hd; have Hrr := Lib.hid hr; have Hbr := Lib.hid hb
      clear hpk hd hr hb
      by_cases hlt : t < 32
      · have hi0 : 2 * t < s.size := by omega
        have hi1 : 2 * t + 1 < s.size := by omega
        have E0 := Lib.hid (HLs.out _ hi0)
        have E1 := Lib.hid (HLs.out _ hi1)
        by_cases hv0 : valB s[2 * t] = true
        · by_cases hv1 : valB s[2 * t + 1] = true
          · go_wp2_with fail
            refine (value_any _ _).mono ?_
            rintro e w' ⟨rfl, rfl⟩
            go_wp2_with fail
            refine (value_any _ _).mono ?_
            rintro e w' ⟨rfl, rfl⟩
            have k1 : wr.cell? ⟨r + 1, t, none⟩ = some (.int .u8 ((plist l t).getD t 0).toNat) := by
              rw [cell_blk Hdr.out]; have := plist_length l t ht; simp [bcells, List.getD_eq_getElem?_getD, this, hlt]
            have k2 : wr.frozen? ⟨r + 1, t, none⟩ = false := free_blk Hdr.out _
            have hbits := nib_or (valN s[2 * t]) (valN s[2 * t + 1]) (valN_lt _) (valN_lt _)
            have hpb : 16 * (valN s[2 * t]).toNat + (valN s[2 * t + 1]).toNat = (pby l t).toNat := by
              have h0 := valN_lt s[2 * t]
              have h1 := valN_lt s[2 * t + 1]
              rw [E0.out] at h0 ⊢
              rw [E1.out] at h1 ⊢
              unfold pby
              rw [UInt8.toNat_ofNat']; omega
            rw [hpb] at hbits
            clear hpb
            have Hpk2 : Hid (pokB l (2 * (t + 1)) = true) := Lib.hid (by
              rw [show 2 * (t + 1) = 2 * t + 1 + 1 by omega, pokB_succ, pokB_succ, Hpk.out, ← E0.out, ← E1.out, hv0, hv1]; rfl)
            go_wp2_with fail
            go_roundw
            case rel => exact ⟨t + 1, by omega, by go_num, Hpk2.out, by rw [set_blk Hdr.out, bcells_set, plist_set l t hlt], by rw [Below.heap_setCell _ _ _ _ (by simp)]; exact Hrr.out, Hbr.out.setCell (by simp) _⟩
            case measure => simp [intOf]; omega
          · have hv1' : valB s[2 * t + 1] = false := by simpa using hv1
            clear hv1
            have Hpo : Hid (parseOk l = false) := Lib.hid (by
              have h2 : pokB l (2 * t + 2) = false := by rw [pokB_succ, ← E1.out, hv1']; simp
              unfold parseOk; rw [pokB_false h2 64 (by omega)]; simp)
            go_wp2_with fail
            refine (value_any _ _).mono ?_
            rintro e w' ⟨rfl, rfl⟩
            go_wp2_with fail
            refine (value_any _ _).mono ?_
            rintro e w' ⟨rfl, rfl⟩
            go_upto_region 10 with (fail)
            go_wp2_with (first
              | (refine wpList_build (o := ⟨some 40, _, _, _, _, _⟩) rfl _ _ rfl (by kernel_rfl) ?_
                 generalize hc : Option.getD _ _ = c
                 have hc' : zs = c := ((hc.symm.trans (by kernel_rfl : _ = (bcells zeros32).toArray)).trans Hzs.out).symm
                 clear hc
                 subst hc')
              | (refine wpList_store_row (o := ⟨none, .store 25 (.tmp 2) (.tmp 40), _, _, _, _⟩) rfl _ _ _ rfl r zs rfl rfl _ zs Hrr.out (by rw [Hsz.out]; kernel_rfl) (by rw [Hsz.out]) Hone.out ?_))
            refine bodyPost_ret (results_cell_tmp rfl _ _ r 25 zs (0, 0) _ rfl (setRow_heap _ _ _ zs _ (0, 0) Hrr.out) Tryd.underlying25 rfl (by rw [Hsz.out]; kernel_rfl)) rfl ⟨?_, ?_⟩
            · obtain ⟨h1, h2⟩ := Hno.out Hpo.out
              rw [Hls.out, h1, h2, Hdg.out]; rfl
            · rw [HR.out]
              exact below_setRow Hbr.out (Nat.le_refl _) _
        · have hv0' : valB s[2 * t] = false := by simpa using hv0
          clear hv0
          have Hpo : Hid (parseOk l = false) := Lib.hid (by
            have h2 : pokB l (2 * t + 1) = false := by rw [pokB_succ, ← E0.out, hv0']; simp
            unfold parseOk; rw [pokB_false h2 64 (by omega)]; simp)
          go_wp2_with fail
          refine (value_any _ _).mono ?_
          rintro e w' ⟨rfl, rfl⟩
          go_wp2_with fail
          refine (value_any _ _).mono ?_
          rintro e w' ⟨rfl, rfl⟩
          go_upto_region 10 with (fail)
          go_wp2_with (first
            | (refine wpList_build (o := ⟨some 40, _, _, _, _, _⟩) rfl _ _ rfl (by kernel_rfl) ?_
               generalize hc : Option.getD _ _ = c
               have hc' : zs = c := ((hc.symm.trans (by kernel_rfl : _ = (bcells zeros32).toArray)).trans Hzs.out).symm
               clear hc
               subst hc')
            | (refine wpList_store_row (o := ⟨none, .store 25 (.tmp 2) (.tmp 40), _, _, _, _⟩) rfl _ _ _ rfl r zs rfl rfl _ zs Hrr.out (by rw [Hsz.out]; kernel_rfl) (by rw [Hsz.out]) Hone.out ?_))
          refine bodyPost_ret (results_cell_tmp rfl _ _ r 25 zs (0, 0) _ rfl (setRow_heap _ _ _ zs _ (0, 0) Hrr.out) Tryd.underlying25 rfl (by rw [Hsz.out]; kernel_rfl)) rfl ⟨?_, ?_⟩
          · obtain ⟨h1, h2⟩ := Hno.out Hpo.out
            rw [Hls.out, h1, h2, Hdg.out]; rfl
          · rw [HR.out]
            exact below_setRow Hbr.out (Nat.le_refl _) _
      · obtain rfl : t = 32 := by omega
        have Hpo : Hid (parseOk l = true) := Lib.hid (by unfold parseOk; rw [Hl.out, Hpk.out]; rfl)
        have Hyes : Hid (dg (parseD l) = .agg (bcells (plist l 32)).toArray ∧ parseE l = 0) := Lib.hid (by simp [parseD, parseE, Hpo.out, dg])
        have Hsl : Hid ((bcells (plist l 32)).toArray.size = 32) := Lib.hid (by simp [bcells, plist_length])
        have Hon2 : Hid ((bcells (plist l 32)).toArray.all (·.oneCell') = true) := Lib.hid (by
          rw [Array.all_eq_true_iff_forall_mem]; intro x hx; exact bcells_one _ x (by simpa using hx))
        generalize (bcells (plist l 32)).toArray = ys at *
        go_wp2_with (first
          | (refine wpList_load_row (o := ⟨some 48, .load 25 (.tmp 4), _, _, _, _⟩) rfl _ _ rfl (r + 1) rfl _ ys (0, 0) _ Hdr.out Tryd.underlying25 rfl (by rw [Hsl.out]; kernel_rfl) ?_)
          | (refine wpList_store_row (o := ⟨none, .store 25 (.tmp 2) (.tmp 48), _, _, _, _⟩) rfl _ _ _ rfl r ys rfl rfl _ zs Hrr.out (by rw [Hsl.out]; kernel_rfl) (by rw [Hsl.out, Hsz.out]) Hon2.out ?_))
        refine bodyPost_ret (results_cell_tmp rfl _ _ r 25 ys (0, 0) _ rfl (setRow_heap _ _ _ ys _ (0, 0) Hrr.out) Tryd.underlying25 rfl (by rw [Hsl.out]; kernel_rfl)) rfl ⟨?_, ?_⟩
        · rw [Hls.out, Hyes.out.1, Hyes.out.2]; rfl
        · rw [HR.out]
          exact below_setRow Hbr.out (Nat.le_refl _) _
  · have hne : ((s.size : Int) != 64) = true := by rw [bne_iff_ne]; omega
    have Hpo : Hid (parseOk s.data.toList = false) := Lib.hid (by
      have : ¬ s.data.toList.length = 64 := by simpa using hl
      unfold parseOk; rw [decide_eq_false this]; rfl)
    generalize hzs : (bcells zeros32).toArray = zs at *
    go_wp2_with (first
      | (refine wpList_load_row (o := ⟨some 13, .load 25 (.tmp 4), _, _, _, _⟩) rfl _ _ rfl (r + 1) rfl _ zs (0, 0) _ Hd.out Tryd.underlying25 rfl (by rw [Hsz.out]; kernel_rfl) ?_)
      | (refine wpList_store_row (o := ⟨none, .store 25 (.tmp 2) (.tmp 13), _, _, _, _⟩) rfl _ _ _ rfl r zs rfl rfl _ zs Hr.out (by rw [Hsz.out]; kernel_rfl) (by rw [Hsz.out]) Hone.out ?_))
    refine bodyPost_ret (results_cell_tmp rfl _ _ r 25 zs (0, 0) _ rfl (setRow_heap _ _ _ zs _ (0, 0) Hr.out) Tryd.underlying25 rfl (by rw [Hsz.out]; kernel_rfl)) rfl ⟨?_, ?_⟩
    · obtain ⟨h1, h2⟩ := Hno.out Hpo.out
      rw [h1, h2, Hdg.out]; rfl
    · rw [HR.out]
      exact below_setRow Hb.out (Nat.le_refl _) _
end Go.Proofs.YtkdkpnidiehdfaaDoor
