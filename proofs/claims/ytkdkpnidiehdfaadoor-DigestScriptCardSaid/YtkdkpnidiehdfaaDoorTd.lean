/- a digest of its text, by the reference. -/
import Derived.Test.YtkdkpnidiehdfaaDoorTc
set_option linter.unusedSimpArgs false
set_option linter.unusedVariables false
namespace Go.Proofs.YtkdkpnidiehdfaaDoor
open Go.RowKit

/-- the last of the first k digits that is c. -/
def fnd (c : UInt8) : Nat → Int
  | 0 => -1
  | k + 1 => if c = hexd (UInt8.ofNat k) then (k : Int) else fnd c k
theorem fnd_all (c : UInt8) : fnd c 16 = if valB c then ((valN c).toNat : Int) else -1 := by
  have : ∀ n : Fin 256, fnd (UInt8.ofNat n.val) 16 = if valB (UInt8.ofNat n.val) then ((valN (UInt8.ofNat n.val)).toNat : Int) else -1 := by decide +kernel
  have h := this ⟨c.toNat, c.toNat_lt⟩
  simpa using h
theorem fnd_bd (c : UInt8) (k : Nat) : -1 ≤ fnd c k ∧ fnd c k < k := by
  induction k with
  | zero => simp [fnd]
  | succ k ih => simp only [fnd]; split <;> omega
/-- the bytes behind i digits. -/
def rby (l : List UInt8) (i j : Nat) : UInt8 := if 2 * j + 1 < i then pby l j else if 2 * j < i then valN (l.getD (2 * j) 0) else 0
def rlist (l : List UInt8) (i : Nat) : List UInt8 := (List.range 32).map (rby l i)
theorem rlist_length (l : List UInt8) (i : Nat) : (rlist l i).length = 32 := by simp [rlist]
theorem rlist_get (l : List UInt8) (i j : Nat) (h : j < 32) : (rlist l i).getD j 0 = rby l i j := by simp [rlist, List.getD_eq_getElem?_getD, h]
theorem rlist_zero (l : List UInt8) : rlist l 0 = zeros32 := by
  apply List.ext_getElem
  · simp [rlist, zeros32]
  · intro i h1 h2
    have e : ∀ n j (h : j < (List.replicate n (0 : UInt8)).length), (List.replicate n (0 : UInt8))[j] = 0 := fun n j h => by rw [List.getElem_replicate]
    have h3 : zeros32[i] = 0 := e 32 i h2
    rw [h3]
    simp [rlist, rby]
theorem rlist_last (l : List UInt8) : rlist l 64 = plist l 32 := by
  apply List.ext_getElem
  · simp [rlist, plist]
  · intro i h1 h2
    have : i < 32 := by simpa [rlist] using h1
    simp [rlist, plist, rby]
    intro h; omega
theorem rlist_set (l : List UInt8) (i : Nat) (h : i < 64) : (rlist l i).set (i / 2) (UInt8.ofNat (16 * (rby l i (i / 2)).toNat + (valN (l.getD i 0)).toNat)) = rlist l (i + 1) := by
  apply List.ext_getElem
  · simp [rlist]
  · intro j h1 h2
    have hj : j < 32 := by simpa [rlist] using h2
    rw [List.getElem_set]
    split
    · rename_i e
      subst e
      simp only [rlist, List.getElem_map, List.getElem_range]
      by_cases hp : i % 2 = 0
      · have e1 : rby l i (i / 2) = 0 := by unfold rby; rw [if_neg (by omega), if_neg (by omega)]
        have e2 : rby l (i + 1) (i / 2) = valN (l.getD (2 * (i / 2)) 0) := by unfold rby; rw [if_neg (by omega), if_pos (by omega)]
        rw [e1, e2, show 2 * (i / 2) = i by omega]
        simp
      · have e1 : rby l i (i / 2) = valN (l.getD (2 * (i / 2)) 0) := by unfold rby; rw [if_neg (by omega), if_pos (by omega)]
        have e2 : rby l (i + 1) (i / 2) = pby l (i / 2) := by unfold rby; rw [if_pos (by omega)]
        rw [e1, e2]
        unfold pby
        rw [show 2 * (i / 2) + 1 = i by omega]
    · rename_i e
      simp only [rlist, List.getElem_map, List.getElem_range]
      unfold rby
      by_cases a : 2 * j + 1 < i
      · rw [if_pos a, if_pos (by omega)]
      · rw [if_neg a]
        by_cases b : 2 * j < i
        · omega
        · rw [if_neg b, if_neg (by omega), if_neg (by omega)]
theorem rby_lt (l : List UInt8) (i : Nat) : (rby l i (i / 2)).toNat < 16 := by
  unfold rby
  rw [if_neg (by omega)]
  split
  · exact valN_lt _
  · simp

set_option maxRecDepth 100000 in
set_option maxHeartbeats 16000000 in
theorem parse_ref (s : ByteArray) (w : World) :
    Calls Tryd.prog 31 #[.string s] w fun e w' => e = .returned (.tuple #[dg (parseD s.data.toList), .int .i64 (parseE s.data.toList)]) ∧ Below w.heap.size w w' := by
  have hz := zeros_dg
  have Hsz : Hid ((bcells zeros32).toArray.size = 32) := Lib.hid rfl
  have Hone : Hid ((bcells zeros32).toArray.all (·.oneCell') = true) := Lib.hid (by
    rw [Array.all_eq_true_iff_forall_mem]; intro x hx; exact bcells_one _ x (by simpa using hx))
  have Hdg : Hid (dg zeros32 = .agg (bcells zeros32).toArray) := Lib.hid rfl
  have Hp0 : Hid (rlist s.data.toList 0 = zeros32) := Lib.hid (rlist_zero _)
  have Hno : Hid (parseOk s.data.toList = false → dg (parseD s.data.toList) = dg zeros32 ∧ parseE s.data.toList = 4) := Lib.hid (fun h => by simp [parseD, parseE, h, zeros32])
  rw [Hdg.out] at hz
  injection hz with hz
  have Hz := Lib.hid hz
  clear hz
  go_enter Tryd.func31, Tryd.ntmps31
  go_upto_region 2 with (fail)
  rw [← Hz.out]
  generalize hw1 : w.alloc (.cells _ 25) = w1
  generalize hw2 : w1.alloc (.cells _ 25) = w2
  have Hr : Hid (w2.heap[w.heap.size]? = some (.cells (bcells zeros32).toArray 25 (0, 0))) := Lib.hid (by subst hw2 hw1; exact alloc_blk (heap_alloc_new _ _) _)
  have Hd : Hid (w2.heap[w.heap.size + 1]? = some (.cells (bcells zeros32).toArray 25 (0, 0))) := Lib.hid (by
    subst hw2 hw1
    exact alloc_new1 _ _ _ _)
  have Hb : Hid (Below w.heap.size w w2) := Lib.hid (by subst hw2 hw1; exact ((Below.refl _ _).alloc (Nat.le_refl _) _).alloc (by simp) _)
  clear hw1 hw2
  generalize hr : w.heap.size = r
  rw [hr] at Hr Hd Hb
  have HR := Lib.hid hr
  clear hr
  by_cases hl : s.size = 64
  · have hne : ((s.size : Int) != 64) = false := by rw [bne_eq_false_iff_eq]; omega
    have Hl : Hid (s.data.toList.length = 64) := Lib.hid (by simpa using hl)
    have HLs : Hid (∀ i (h : i < s.size), s[i] = s.data.toList.getD i 0) := Lib.hid (ba_get s)
    generalize hls : s.data.toList = l at *
    have Hls := Lib.hid hls
    clear hls
    have hl64 : s.size ≤ 64 := by omega
    have hl46 : 64 ≤ s.size := by omega
    have Hl2 := Lib.hid hl
    clear hl
    generalize hzs : (bcells zeros32).toArray = zs at *
    have Hzs := Lib.hid hzs
    clear hzs
    go_wp2_with fail
    go_loopw [5] (fun i wr => ∃ t : Nat, t ≤ 64 ∧ i = .int .i64 t ∧ pokB l t = true ∧ wr.heap[r + 1]? = some (.cells (bcells (rlist l t)).toArray 25 (0, 0)) ∧ wr.heap[r]? = some (.cells zs 25 (0, 0)) ∧ Below r w wr) (fun i _ => 64 - (intOf i).toNat)
    case atStart => exact ⟨0, by omega, rfl, rfl, by rw [Hp0.out, Hzs.out]; exact Hd.out, Hr.out, Hb.out⟩
    case round =>
      obtain ⟨t, ht, rfl, hpk, hd, hr, hb⟩ := hrel
      have Hpk := Lib.hid hpk; have Hdr := Lib.hid hd; have Hrr := Lib.hid hr; have Hbr := Lib.hid hb
      clear hpk hd hr hb
      by_cases hlt : t < 64
      · have E0 := Lib.hid (HLs.out _ (by omega : t < s.size))
        have Hsi : Hid (s.data.toList.getD t 0 = l.getD t 0) := Lib.hid (by rw [Hls.out])
        generalize hcc : l.getD t 0 = c at *
        have Hcc := Lib.hid hcc
        clear hcc
        go_wp2_with fail
        obtain ⟨wo, hwo⟩ : ∃ wo : World, wo = wr := ⟨_, rfl⟩
        rw [← hwo]
        rw [← hwo] at Hdr Hrr Hbr
        clear hwo
        go_loopw [6, 7] (fun n i wr => ∃ k : Nat, k ≤ 16 ∧ i = .int .i64 k ∧ n = .int .i64 (fnd c k) ∧ Below wo.heap.size wo wr) (fun _ i _ => 16 - (intOf i).toNat)
        case atStart => exact ⟨0, by omega, rfl, rfl, Below.refl _ _⟩
        case round =>
          obtain ⟨k, hk, rfl, rfl, hb⟩ := hrel
          have Hbk := Lib.hid hb
          clear hb
          by_cases hlk : k < 16
          · have Hfs : Hid (fnd c (k + 1) = if c = hexd (UInt8.ofNat k) then (k : Int) else fnd c k) := Lib.hid rfl
            have hwk := wu8 (k : Int) (by omega) (by omega)
            have Hkk : Hid ((k : Int) = ((UInt8.ofNat k).toNat : Int)) := Lib.hid (by rw [UInt8.toNat_ofNat']; omega)
            have Hk16 : Hid ((UInt8.ofNat k).toNat < 16) := Lib.hid (by rw [UInt8.toNat_ofNat']; omega)
            generalize UInt8.ofNat k = kk at Hfs Hkk Hk16
            go_wp2_with fail
            apply wp_region_rel 7 [.inl _, .inl _, .inl _, .inl _, .inl _, .inl _, .inl _] (by kernel_rfl) (by kernel_rfl) rfl
            simp only [List.take_succ_cons, List.take_zero, List.drop_succ_cons, List.drop_zero]
            iterate 2 (apply rel_is; (intro W hW hf; go_simp; exact ⟨Stay.refl _ _, rfl⟩); simp only [Act.put, List.setIfInBounds_toArray, List.set_cons_succ, List.set_cons_zero])
            apply rel_is
            · exact (fun W hW hf => rel_index_str rfl rfl Tryd.underlying9 rfl rfl t rfl (by have := Hl2.out; omega) c Hsi.out)
            simp only [Act.put, List.setIfInBounds_toArray, List.set_cons_succ, List.set_cons_zero]
            iterate 2 (apply rel_is; (intro W hW hf; go_simp; exact ⟨Stay.refl _ _, rfl⟩); simp only [Act.put, List.setIfInBounds_toArray, List.set_cons_succ, List.set_cons_zero])
            apply rel_is
            · intro W hW hf
              refine rel_call hW rfl (f := 62) (args := #[.int .u8 (k : Int)]) (by go_simp) ?_
              exact (digit_int _ kk Hkk.out Hk16.out W).mono fun e w' ⟨he, hw⟩ => ⟨_, he, by subst hw; exact Below.refl _ _, rfl⟩
            simp only [Act.put, List.setIfInBounds_toArray, List.set_cons_succ, List.set_cons_zero]
            apply rel_is
            · intro W hW hf; go_simp; exact ⟨Stay.refl _ _, rfl⟩
            simp only [Act.put, List.setIfInBounds_toArray, List.set_cons_succ, List.set_cons_zero]
            refine rel_end ?_
            intro W hW _
            have HW := Lib.hid (Hbk.out.trans (hW.mono Hbk.out.size))
            clear hW
            refine wpList_nil ?_
            by_cases hce : c = hexd kk
            · have hq : (((c.toNat : Int)) == ((hexd kk).toNat : Int)) = true := by rw [hce]; simp
              have Hff : Hid (fnd c (k + 1) = (k : Int)) := Lib.hid (by rw [Hfs.out, if_pos hce])
              clear hce
              go_wp2_with fail
              go_roundw
              case rel => exact ⟨k + 1, by omega, by go_num, by rw [Hff.out], HW.out⟩
              case measure => simp [intOf]; omega
            · have hq : (((c.toNat : Int)) == ((hexd kk).toNat : Int)) = false := by
                rw [beq_eq_false_iff_ne]; intro e; exact hce (UInt8.toNat_inj.1 (by omega))
              have Hff : Hid (fnd c (k + 1) = fnd c k) := Lib.hid (by rw [Hfs.out, if_neg hce])
              clear hce
              go_wp2_with fail
              go_roundw
              case rel => exact ⟨k + 1, by omega, by go_num, by rw [Hff.out], HW.out⟩
              case measure => simp [intOf]; omega
          · obtain rfl : k = 16 := by omega
            have hfa := fnd_all c
            have Hrx : Hid (wr.heap[r]? = some (.cells zs 25 (0, 0))) := Lib.hid ((Hbk.out.block r (lt_blk Hrr.out)).trans Hrr.out)
            have Hdx : Hid (wr.heap[r + 1]? = some (.cells (bcells (rlist l t)).toArray 25 (0, 0))) := Lib.hid ((Hbk.out.block (r + 1) (lt_blk Hdr.out)).trans Hdr.out)
            have Hbx : Hid (Below r w wr) := Lib.hid (Hbr.out.trans (Hbk.out.mono (Nat.le_of_lt (lt_blk Hrr.out))))
            by_cases hv : valB c = true
            · rw [if_pos hv] at hfa
              rw [hfa]
              have Hpk2 : Hid (pokB l (t + 1) = true) := Lib.hid (by rw [pokB_succ, Hpk.out, Hcc.out, hv]; rfl)
              have Hst : Hid ((rlist l t).set (t / 2) (UInt8.ofNat (16 * (rby l t (t / 2)).toNat + (valN c).toNat)) = rlist l (t + 1)) := Lib.hid (by rw [← Hcc.out]; exact rlist_set l t hlt)
              have k1 : wr.cell? ⟨r + 1, t / 2, none⟩ = some (.int .u8 (rby l t (t / 2)).toNat) := by
                rw [cell_blk Hdx.out, ← rlist_get l t (t / 2) (by omega)]; have := rlist_length l t; have h32 : t / 2 < 32 := by omega
                simp [bcells, List.getD_eq_getElem?_getD, this, h32]
              have k2 : wr.frozen? ⟨r + 1, t / 2, none⟩ = false := free_blk Hdx.out _
              have hx := rby_lt l t
              have hy := valN_lt c
              have Hnew : Hid ((16 * ((rby l t (t / 2)).toNat : Int) + ((valN c).toNat : Int)) = ((UInt8.ofNat (16 * (rby l t (t / 2)).toNat + (valN c).toNat)).toNat : Int)) := Lib.hid (by rw [UInt8.toNat_ofNat']; omega)
              generalize UInt8.ofNat (16 * (rby l t (t / 2)).toNat + (valN c).toNat) = z at Hst Hnew
              generalize rby l t (t / 2) = x at k1 hx Hnew
              generalize valN c = y at hy Hnew hfa
              have e1 := wu8 ((x.toNat : Int) * 16) (by omega) (by omega)
              have e2 := wu8 (y.toNat : Int) (by omega) (by omega)
              have e3 := wu8 ((x.toNat : Int) * 16 + (y.toNat : Int)) (by omega) (by omega)
              have e4 : (x.toNat : Int) * 16 + (y.toNat : Int) = (z.toNat : Int) := by rw [← Hnew.out]; omega
              clear hfa
              go_wp2_with fail
              go_roundw
              case rel => exact ⟨t + 1, by omega, by go_num, Hpk2.out, by rw [set_blk Hdx.out, bcells_set, Hst.out], by rw [Below.heap_setCell _ _ _ _ (by simp)]; exact Hrx.out, Hbx.out.setCell (by simp) _⟩
              case measure => simp [intOf]; omega
            · have hv' : valB c = false := by simpa using hv
              rw [if_neg hv] at hfa
              rw [hfa]
              clear hv hfa
              have Hpo : Hid (parseOk l = false) := Lib.hid (by
                have h2 : pokB l (t + 1) = false := by rw [pokB_succ, Hcc.out, hv']; simp
                unfold parseOk; rw [pokB_false h2 64 (by omega)]; simp)
              go_wp2_with (first
                | (refine wpList_build (o := ⟨some 30, _, _, _, _, _⟩) rfl _ _ rfl (by kernel_rfl) ?_
                   generalize hc : Option.getD _ _ = c
                   have hc' : zs = c := ((hc.symm.trans (by kernel_rfl : _ = (bcells zeros32).toArray)).trans Hzs.out).symm
                   clear hc
                   subst hc')
                | (refine wpList_store_row (o := ⟨none, .store 25 (.tmp 2) (.tmp 30), _, _, _, _⟩) rfl _ _ _ rfl r zs rfl rfl _ zs Hrx.out (by rw [Hsz.out]; kernel_rfl) (by rw [Hsz.out]) Hone.out ?_))
              refine bodyPost_ret (results_cell_tmp rfl _ _ r 25 zs (0, 0) _ rfl (setRow_heap _ _ _ zs _ (0, 0) Hrx.out) Tryd.underlying25 rfl (by rw [Hsz.out]; kernel_rfl)) rfl ⟨?_, ?_⟩
              · obtain ⟨h1, h2⟩ := Hno.out Hpo.out
                rw [Hls.out, h1, h2, Hdg.out]; rfl
              · rw [HR.out]
                exact below_setRow Hbx.out (Nat.le_refl _) _
      · obtain rfl : t = 64 := by omega
        have Hpo : Hid (parseOk l = true) := Lib.hid (by unfold parseOk; rw [Hl.out, Hpk.out]; rfl)
        have Hyes : Hid (dg (parseD l) = .agg (bcells (plist l 32)).toArray ∧ parseE l = 0) := Lib.hid (by simp [parseD, parseE, Hpo.out, dg])
        rw [← rlist_last] at Hyes
        have Hsl : Hid ((bcells (rlist l 64)).toArray.size = 32) := Lib.hid (by simp [bcells, rlist_length])
        have Hon2 : Hid ((bcells (rlist l 64)).toArray.all (·.oneCell') = true) := Lib.hid (by
          rw [Array.all_eq_true_iff_forall_mem]; intro x hx; exact bcells_one _ x (by simpa using hx))
        generalize (bcells (rlist l 64)).toArray = ys at *
        go_wp2_with (first
          | (refine wpList_load_row (o := ⟨some 42, .load 25 (.tmp 4), _, _, _, _⟩) rfl _ _ rfl (r + 1) rfl _ ys (0, 0) _ Hdr.out Tryd.underlying25 rfl (by rw [Hsl.out]; kernel_rfl) ?_)
          | (refine wpList_store_row (o := ⟨none, .store 25 (.tmp 2) (.tmp 42), _, _, _, _⟩) rfl _ _ _ rfl r ys rfl rfl _ zs Hrr.out (by rw [Hsl.out]; kernel_rfl) (by rw [Hsl.out, Hsz.out]) Hon2.out ?_))
        refine bodyPost_ret (results_cell_tmp rfl _ _ r 25 ys (0, 0) _ rfl (setRow_heap _ _ _ ys _ (0, 0) Hrr.out) Tryd.underlying25 rfl (by rw [Hsl.out]; kernel_rfl)) rfl ⟨?_, ?_⟩
        · rw [Hls.out, Hyes.out.1, Hyes.out.2]; rfl
        · rw [HR.out]
          exact below_setRow Hbr.out (Nat.le_refl _) _
  · have hne : ((s.size : Int) != 64) = true := by rw [bne_iff_ne]; omega
    have Hpo : Hid (parseOk s.data.toList = false) := Lib.hid (by
      have : ¬ s.data.toList.length = 64 := by simpa using hl
      unfold parseOk; rw [decide_eq_false this]; rfl)
    generalize hzs : (bcells zeros32).toArray = zs at *
    go_wp2_with (first
      | (refine wpList_load_row (o := ⟨some 11, .load 25 (.tmp 4), _, _, _, _⟩) rfl _ _ rfl (r + 1) rfl _ zs (0, 0) _ Hd.out Tryd.underlying25 rfl (by rw [Hsz.out]; kernel_rfl) ?_)
      | (refine wpList_store_row (o := ⟨none, .store 25 (.tmp 2) (.tmp 11), _, _, _, _⟩) rfl _ _ _ rfl r zs rfl rfl _ zs Hr.out (by rw [Hsz.out]; kernel_rfl) (by rw [Hsz.out]) Hone.out ?_))
    refine bodyPost_ret (results_cell_tmp rfl _ _ r 25 zs (0, 0) _ rfl (setRow_heap _ _ _ zs _ (0, 0) Hr.out) Tryd.underlying25 rfl (by rw [Hsz.out]; kernel_rfl)) rfl ⟨?_, ?_⟩
    · obtain ⟨h1, h2⟩ := Hno.out Hpo.out
      rw [h1, h2, Hdg.out]; rfl
    · rw [HR.out]
      exact below_setRow Hb.out (Nat.le_refl _) _
end Go.Proofs.YtkdkpnidiehdfaaDoor
