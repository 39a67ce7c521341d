/- one bit that is turned. -/
import Derived.Test.YtblccebcmfpjeaaPa
set_option linter.unusedSimpArgs false
set_option linter.unusedVariables false
namespace Go.Proofs.Ytblccebcmfpjeaa
open Go.RowKit

/-- an own row of bytes that is not empty: its block. -/
theorem own_blk {w : World} {B n : Nat} {v : Value} {l : List UInt8} (h : w.ownsRow B 5 1 v n (bcells l)) (h0 : 0 < n) : ∃ g cap cur, v = .slice (some ⟨g, 0, none⟩) n cap ∧ B ≤ g ∧ w.heap[g]? = some (.cells cur 5 (0, 0)) ∧ n ≤ cap ∧ (∀ j, j < l.length → cur[j]? = some (.int .u8 ((l.getD j 0).toNat : Int))) := by
  rcases h.2 with ⟨_, h1⟩ | ⟨g, cap, cur, rfl, hb, hg, hnc, _, hsz, htk⟩
  · omega
  · refine ⟨g, cap, cur, rfl, hb, hg, hnc, fun j hj => ?_⟩
    have h1 : (bcells l)[j]? = some (.int .u8 ((l.getD j 0).toNat : Int)) := by simp [bcells, List.getD_eq_getElem?_getD, hj]
    have hl := h.1
    rw [bcells_length] at hl
    rw [← htk, List.getElem?_take, if_pos (by omega)] at h1
    simpa using h1
theorem Bs.set {w : World} {g i : Nat} {cur : Array Value} {l : List UInt8} {y : UInt8} {z : Int} {e : TypeId} {fr : Nat × Nat} (hg : w.heap[g]? = some (.cells (cur.setIfInBounds i (.int .u8 z)) e fr)) (hz : z = (y.toNat : Int)) (hc : ∀ j, j < l.length → cur[j]? = some (.int .u8 ((l.getD j 0).toNat : Int))) : Bs w w.heap.size (some ⟨g, 0, none⟩) (l.set i y) := fun j hj => by
  rw [List.length_set] at hj
  refine ⟨g, 0, rfl, lt_blk hg, ?_⟩
  obtain ⟨x1, x2⟩ := fr
  rw [cell_of_row w g _ _ _ (x1, x2) hg, Nat.zero_add]
  have h1 := hc j hj
  have hjs : j < cur.size := (Array.getElem?_eq_some_iff.1 h1).1
  by_cases e : i = j
  · subst e
    rw [Array.getElem?_setIfInBounds_self_of_lt hjs, hz]
    simp [List.getD_eq_getElem?_getD, hj]
  · rw [Array.getElem?_setIfInBounds_ne e, h1]
    simp [List.getD_eq_getElem?_getD, List.getElem?_set_ne e]
theorem xor_bit_ne (x : UInt8) (j : Nat) (hj : j < 8) : x ^^^ UInt8.ofNat (2 ^ j) ≠ x := by
  intro h
  have h1 : UInt8.ofNat (2 ^ j) = 0 := by
    have : x ^^^ UInt8.ofNat (2 ^ j) = x ^^^ 0 := by rw [h]; simp
    have h2 := congrArg UInt8.toNat this
    rw [UInt8.toNat_xor, UInt8.toNat_xor] at h2
    exact UInt8.toNat_inj.1 (xor_cancel' h2)
  have : j = 0 ∨ j = 1 ∨ j = 2 ∨ j = 3 ∨ j = 4 ∨ j = 5 ∨ j = 6 ∨ j = 7 := by omega
  rcases this with rfl | rfl | rfl | rfl | rfl | rfl | rfl | rfl <;> revert h1 <;> decide
theorem xor_bit (x : UInt8) (j : Nat) (hj : j < 8) (z : Int) (hz : z = 2 ^ j) : bits .xor .u8 (x.toNat : Int) z = ((x ^^^ UInt8.ofNat (2 ^ j)).toNat : Int) := by
  have h := u8_xor x (UInt8.ofNat (2 ^ j))
  have e : ((UInt8.ofNat (2 ^ j)).toNat : Int) = z := by
    rw [hz, UInt8.toNat_ofNat']
    have : j = 0 ∨ j = 1 ∨ j = 2 ∨ j = 3 ∨ j = 4 ∨ j = 5 ∨ j = 6 ∨ j = 7 := by omega
    rcases this with rfl | rfl | rfl | rfl | rfl | rfl | rfl | rfl <;> decide
  rw [← e]; exact h
/-- the frame in which a byte is. -/
theorem in_frame (ls : List (List UInt8)) (k i : Nat) (hk : k < ls.length) (h1 : (framesL (ls.take k)).length ≤ i) (h2 : i < (framesL ls).length) (h3 : ¬ (k + 1 < ls.length) ∨ i < (framesL (ls.take (k + 1))).length) (hl : ∀ r ∈ ls, r.length ≤ 65536) (y : UInt8) (hy : (framesL ls)[i]? ≠ some y) :
    scanL ((framesL ls).set i y) = (ls.take k, (framesL (ls.take k)).length, 2) := by
  have e : ls = ls.take k ++ ls[k] :: ls.drop (k + 1) := by rw [List.getElem_cons_drop, List.take_append_drop]
  have h4 : i < (framesL (ls.take (k + 1))).length := by
    rcases h3 with h3 | h3
    · have : ls.take (k + 1) = ls := List.take_of_length_le (by omega)
      rw [this]; exact h2
    · exact h3
  rw [frames_take ls k hk, List.length_append, frame_length] at h4
  have hg : ls.getD k [] = ls[k] := by rw [List.getD_eq_getElem?_getD, List.getElem?_eq_getElem hk]; rfl
  rw [hg] at h4
  obtain ⟨j, hj⟩ : ∃ j, i = (framesL (ls.take k)).length + j := ⟨i - (framesL (ls.take k)).length, by omega⟩
  rw [hj] at hy h4 ⊢
  have := scan_turned (ls.take k) (ls.drop (k + 1)) ls[k] (fun x hx => hl x (List.mem_of_mem_take hx)) (hl _ (List.getElem_mem hk)) j y (by omega) (by rw [← e]; exact hy)
  rwa [← e] at this
theorem icells_get (l : List Nat) (k : Nat) (h : k < l.length) : (icells l)[k]? = some (.int .i64 (l.getD k 0 : Nat)) := by simp [icells, List.getD_eq_getElem?_getD, h]
theorem offs_get (ls : List (List UInt8)) (n k : Nat) (h : k < n) : (offs ls n).getD k 0 = (framesL (ls.take k)).length := by simp [offs, List.getD_eq_getElem?_getD, List.getElem?_range h]
theorem offs_length (ls : List (List UInt8)) (n : Nat) : (offs ls n).length = n := by simp [offs]
theorem Ls.take {w : World} {B : Nat} {A : Option Addr} {ls : List (List UInt8)} (h : Ls w B A ls) (k : Nat) : Ls w B A (ls.take k) := fun i hi => by
  have hi' : i < k ∧ i < ls.length := by simp at hi; omega
  obtain ⟨b, off, e, hb, Ai, ci, hc, h1, h2⟩ := h i hi'.2
  have e2 : (ls.take k).getD i [] = ls.getD i [] := by simp [List.getD_eq_getElem?_getD, List.getElem?_take, hi'.1]
  rw [e2]
  exact ⟨b, off, e, hb, Ai, ci, hc, h1, h2⟩
theorem scan_at (l : List UInt8) (n : Nat) (hn : n = l.length) (hl : n ≤ 1000000) (A : Option Addr) (cap : Nat) (w : World) (hA : Bs w w.heap.size A l) (hcap : n ≤ cap) :
    Calls Try.prog 11 #[.slice A n cap] w (ScanP l w) := by
  subst hn; exact scan_any l hl A cap w hA hcap
theorem lists_at (la lb : List (List UInt8)) (n m : Nat) (hn' : n = la.length) (hm' : m = lb.length) (hn : n ≤ 1000000) (hm : m ≤ 1000000) (A B : Option Addr) (ca cb Ba Bb : Nat) (w : World) (ha : Ls w Ba A la) (hBa : Ba ≤ w.heap.size) (hb : Ls w Bb B lb) (hBb : Bb ≤ w.heap.size) :
    Calls Try.prog 12 #[.slice A n ca, .slice B m cb] w fun e w' => e = .returned (.bool (decide (la = lb))) ∧ Below w.heap.size w w' := by
  subst hn' hm'; exact lists_any la lb hn hm A B ca cb Ba Bb w ha hBa hb hBb
set_option maxRecDepth 100000 in
set_option maxHeartbeats 4000000 in
theorem turned_walk (ls : List (List UInt8)) (A : Option Addr) (cap : Nat) (bit : Int) (w : World) (hA : Ls w w.heap.size A ls) (hl : ls.length ≤ 140737488351232 ∧ ∀ l ∈ ls, l.length ≤ 140737488351232) (hcap : ls.length ≤ cap) (hbit : (-9223372036854775808 : Int) ≤ bit ∧ bit ≤ 9223372036854775807) :
    Calls Try.prog 3 #[.slice A ls.length cap, .int .i64 bit] w fun e w' => e = .returned (.bool true) ∧ Below w.heap.size w w' := by
  have HA := Lib.hid hA; have HL := Lib.hid hl
  clear hA hl
  go_enter Try.func3, Try.ntmps3
  go_wp2_with fail
  refine (awake_any w).mono ?_
  rintro e w1 ⟨rfl, hb1⟩
  have HB1 := Lib.hid hb1
  have HA1 := Lib.hid ((HA.out.below hb1).more hb1.size)
  clear hb1
  go_wp2_with fail
  refine (run_any ls A cap w1 HA1.out HL.out.1 HL.out.2).mono ?_
  rintro e w2 ⟨hb2, h2⟩
  have HB2 := Lib.hid (HB1.out.trans (hb2.mono HB1.out.size))
  have H12 := Lib.hid hb2
  clear hb2
  rcases h2 with rfl | ⟨h20, hall, v, u, rfl, hv, hu⟩
  · go_wp2_with fail
    go_ret
    exact ⟨rfl, HB2.out⟩
  · have Hall := Lib.hid hall
    have hfl := frames_len ls hall
    obtain ⟨Au, cu, rfl, hru, hnu, hcu⟩ := own_rd hu
    have Ru := Lib.hid hru
    have Hu := Lib.hid hu
    by_cases h0 : (framesL ls).length = 0
    · obtain ⟨Av, cv, rfl, _, _, _⟩ := own_rd hv
      have z0 : ((framesL ls).length : Int) = 0 := by omega
      clear hv hall hru hnu hu
      go_wp2_with fail
      go_ret
      exact ⟨rfl, HB2.out⟩
    · obtain ⟨g, cv, cur, rfl, hg, hblk, hcv, hcur⟩ := own_blk hv (by omega)
      have Hv := Lib.hid hv
      have Hg := Lib.hid hg; have Hblk := Lib.hid hblk; have Hcur := Lib.hid hcur
      have z0 : ((framesL ls).length : Int) ≠ 0 := by omega
      have Hfl := Lib.hid hfl
      have hm : (framesL ls).length ≤ 6240 := by omega
      generalize hmm : (framesL ls).length = m at *
      have Hmm := Lib.hid hmm
      clear hv hall hru hnu hu hg hblk hcur hcu hmm hfl
      go_wp2_with fail
      refine (pick_any bit _ hbit (by omega) (by omega) w2).mono ?_
      rintro e w3 ⟨rfl, rfl⟩
      obtain ⟨p, hp, hpm⟩ : ∃ p : Nat, pick bit (8 * (m : Int)) = p ∧ p < 8 * m := by
        have h1 : pick bit (8 * (m : Int)) = bit % (8 * (m : Int)) := if_neg (by omega)
        have h2 := Int.emod_nonneg bit (show (8 * (m : Int)) ≠ 0 by omega)
        have h3 := Int.emod_lt_of_pos bit (show 0 < (8 * (m : Int)) by omega)
        exact ⟨(bit % (8 * (m : Int))).toNat, by rw [h1]; omega, by omega⟩
      rw [hp]
      clear hp
      obtain ⟨i, j, hi, hj, hpi⟩ : ∃ i j : Nat, i < m ∧ j < 8 ∧ p = 8 * i + j := ⟨p / 8, p % 8, by omega, by omega, by omega⟩
      subst hpi
      have hx := Hcur.out i hi
      have C1 : Hid (∀ W, Below w2.heap.size w2 W → W.cell? ⟨g, i, none⟩ = some (.int .u8 (((framesL ls).getD i 0).toNat : Int))) := Lib.hid (fun W hW => by
        rw [hW.cell (p := ⟨g, i, none⟩) (lt_blk Hblk.out), cell_blk Hblk.out]; exact hx)
      have Hx : Hid ((framesL ls).getD i 0 = (framesL ls).getD i 0) := Lib.hid rfl
      have Hne := Lib.hid (xor_bit_ne ((framesL ls).getD i 0) j hj)
      clear hx
      generalize hxv : (framesL ls).getD i 0 = x at *
      obtain ⟨y, hy⟩ : ∃ y, y = x ^^^ UInt8.ofNat (2 ^ j) := ⟨_, rfl⟩
      have Hxv := Lib.hid hxv
      clear hxv Hx
      go_wp2_with fail
      have q1 : IntKind.i64.wrap ((8 * (i : Int) + j).tdiv 8) = (i : Int) := by
        rw [Int.tdiv_eq_ediv_of_nonneg (by omega), IntWalk.i64_in _ (by omega)]; omega
      have q2 : (8 * (i : Int) + j).tmod 8 = (j : Int) := by rw [Int.tmod_eq_emod_of_nonneg (by omega)]; omega
      have q6 : (2 : Int) ^ j % 256 = 2 ^ j := by
        have : j = 0 ∨ j = 1 ∨ j = 2 ∨ j = 3 ∨ j = 4 ∨ j = 5 ∨ j = 6 ∨ j = 7 := by omega
        rcases this with rfl | rfl | rfl | rfl | rfl | rfl | rfl | rfl <;> decide
      have q8 : min j 8 = j := by omega
      have hxb := xor_bit x j hj _ rfl
      rw [← hy] at hxb Hne
      have Hxb : Hid (bits .xor .u8 (x.toNat : Int) (2 ^ j % 256) = (y.toNat : Int)) := Lib.hid (by rw [q6]; exact hxb)
      have Hy := Lib.hid hy
      clear hy
      have q3 : (0 : Int) ≤ i := by omega
      have q4 : (i : Int) < m := by omega
      have q5 : (0 : Int) ≤ j := by omega
      apply wp_region_relS 13 [.inl _, .inl _, .inl _, .inl _, .inl _, .inl _, .inl _, .inl _, .inl _, .inl _, .inl _, .inl _, .inl _] (by kernel_rfl) (by kernel_rfl) rfl
      simp only [List.take_succ_cons, List.take_zero, List.drop_succ_cons, List.drop_zero]
      iterate 13 (apply rel_isS; (intro W hW hf; have hx1 := C1.out W hW; go_simp; exact ⟨StayS.refl _ _, rfl⟩); simp only [Act.put, List.setIfInBounds_toArray, List.set_cons_succ, List.set_cons_zero])
      refine rel_endS ?_
      intro W hW hf
      try simp only [Act.put, List.setIfInBounds_toArray, List.set_cons_succ, List.set_cons_zero]
      have HblkW := Lib.hid ((hW.block g (lt_blk Hblk.out)).trans Hblk.out)
      have c1 := C1.out W hW
      have c2 : W.frozen? ⟨g, i, none⟩ = false := free_blk HblkW.out _
      have HvW := Lib.hid (own_below Hv.out hW); have HuW := Lib.hid (own_below Hu.out hW)
      have HBW := Lib.hid (HB2.out.trans (hW.mono HB2.out.size))
      clear hW hf q1 q2 q6 q8 hxb
      go_upto_region 7 with (fail)
      generalize hw4 : W.setCell _ _ = w4
      have Hb4 : Hid (Bs w4 w4.heap.size (some ⟨g, 0, none⟩) ((framesL ls).set i y)) := Lib.hid (by subst hw4; exact Bs.set (set_blk HblkW.out _ _) Hxb.out (fun j hj => Hcur.out j (by rw [← Hmm.out]; exact hj)))
      have HB4 : Hid (Below w.heap.size w w4) := Lib.hid (by subst hw4; exact HBW.out.setCell (Nat.le_trans HB1.out.size Hg.out) _)
      have Hu4 : Hid (w4.ownsRow w1.heap.size 3 1 (.slice Au (ls.length + 1) cu) (ls.length + 1) (icells (offs ls (ls.length + 1)))) := Lib.hid (by subst hw4; exact own_grown HuW.out HvW.out (by decide) (grown_setCell (World.grownBy.refl W _) rfl _))
      have R4 := Lib.hid (own_rds Hu4.out)
      have Hsc : Hid (∀ k, k < ls.length → (framesL (ls.take k)).length ≤ i → (¬ (k + 1 < ls.length) ∨ i < (framesL (ls.take (k + 1))).length) → scanL ((framesL ls).set i y) = (ls.take k, (framesL (ls.take k)).length, 2)) := Lib.hid (fun k h1 h2 h3 => by
        refine in_frame ls k i h1 h2 (by rw [Hmm.out]; exact hi) h3 (fun r hr => Nat.le_trans (Hall.out r hr) (by omega)) y (fun e => Hne.out ?_)
        rw [List.getElem?_eq_getElem (by rw [Hmm.out]; exact hi)] at e
        injection e with e
        rw [← Hxv.out, List.getD_eq_getElem?_getD, List.getElem?_eq_getElem (by rw [Hmm.out]; exact hi)]
        exact e.symm)
      have Hset : Hid (((framesL ls).set i y).length = m) := Lib.hid (by rw [List.length_set]; exact Hmm.out)
      generalize (framesL ls).set i y = bs at *
      clear hw4 c1 c2
      have Hn0 : Hid (0 < ls.length) := Lib.hid (by
        rcases ls with _ | ⟨a, b⟩
        · have := Hmm.out; simp [framesL] at this; omega
        · simp)
      have Hat : Hid (∀ k, k < ls.length + 1 → ∃ b off, Au = some ⟨b, off, none⟩ ∧ b < w4.heap.size ∧ w4.cell? ⟨b, off + k, none⟩ = some (.int .i64 ((framesL (ls.take k)).length : Nat))) := Lib.hid (fun k hk => by
        obtain ⟨b, off, e, hb, hc⟩ := R4.out k _ (icells_get _ k (by rw [offs_length]; exact hk))
        rw [offs_get _ _ _ hk] at hc
        exact ⟨b, off, e, hb, hc⟩)
      have q7 : (8 * (i : Int) + j) / 8 = (i : Int) := by omega
      obtain ⟨ba, oa, rfl, _⟩ := HA.out 0 Hn0.out
      go_wp2_with fail
      go_loop [9] (fun kk => ∃ k : Nat, k < ls.length ∧ kk = .int .i64 k ∧ (framesL (ls.take k)).length ≤ i) (fun kk => ls.length - (intOf kk).toNat)
      case atStart => exact ⟨0, Hn0.out, rfl, by simp [framesL]⟩
      case round =>
        obtain ⟨k, hk, rfl, hko⟩ := hrel
        obtain ⟨b, off, rfl, hbl, hc1⟩ := Hat.out (k + 1) (by omega)
        obtain ⟨_, _, e, _, hc0⟩ := Hat.out k (by omega)
        injection e with e; injection e with e1 e2; subst e1 e2
        have Hsk := Lib.hid (Hsc.out k hk hko)
        have Htk : Hid ((ls.take k).length = k) := Lib.hid (by simp; omega)
        have hcc : (((framesL (ls.take (k + 1))).length : Nat) : Int) ≤ i ↔ (framesL (ls.take (k + 1))).length ≤ i := by omega
        by_cases hc : k + 1 < ls.length ∧ (framesL (ls.take (k + 1))).length ≤ i
        · obtain ⟨h1, h2⟩ := hc
          have d1 : decide ((k : Int) + 1 < ls.length) = true := by rw [decide_eq_true_iff]; omega
          have d2 : decide ((((framesL (ls.take (k + 1))).length : Nat) : Int) ≤ i) = true := by rw [decide_eq_true_iff]; omega
          have H2 := Lib.hid h2
          clear hcc
          generalize ho1 : (framesL (ls.take (k + 1))).length = o1 at *
          have Ho1 := Lib.hid ho1
          clear ho1
          go_wp2_with fail
          go_round
          case rel => exact ⟨k + 1, by omega, by go_num, by rw [Ho1.out]; exact H2.out⟩
          case measure => simp [intOf]; omega
        · have Hsk2 := Lib.hid (Hsk.out (by omega))
          have hx : k + 1 < ls.length → (i : Int) < ((framesL (ls.take (k + 1))).length : Nat) := by omega
          have Hlt : Hid (Ls w4 w4.heap.size (some ⟨ba, oa, none⟩) (ls.take k)) := Lib.hid (((HA.out.below HB4.out).take k).more HB4.out.size)
          have Hkl : Hid (k ≤ 1000000) := Lib.hid (by omega)
          have hkc : (k : Int) ≤ cap := by omega
          have Htk2 := Lib.hid Htk.out
          clear hcc hc
          generalize (framesL (ls.take (k + 1))).length = o1 at *
          by_cases h1 : k + 1 < ls.length
          all_goals
            try have h2 : (i : Int) < o1 := hx h1
            clear hx
            go_wp2_with fail
            refine (scan_at bs m Hset.out.symm (by omega) (some ⟨g, 0, none⟩) cv w4 Hb4.out (by omega)).mono ?_
            rintro e w5 ⟨v5, vs, rfl, ho5, hr5, hb5⟩
            have hs := Hsk2.out
            clear Hsk2 Hsk Hsc
            generalize scanL bs = sc at *
            subst hs
            dsimp only at ho5 hr5 ⊢
            obtain ⟨A5, c5, rfl, hls5, _, _⟩ := Ls.rows ho5 hr5 rfl
            have Hls5 := Lib.hid hls5
            have Hb5 := Lib.hid hb5
            have hc5 := (hb5.cell (p := ⟨b, off + k, none⟩) hbl).trans hc0
            clear ho5 hr5 hls5 hb5 hc1
            rw [Htk2.out]
            go_wp2_with fail
            refine (lists_at (ls.take k) (ls.take k) k k Htk.out.symm Htk2.out.symm Hkl.out Hkl.out A5 (some ⟨ba, oa, none⟩) c5 cap w5.heap.size w4.heap.size w5 Hls5.out (Nat.le_refl _) (Hlt.out.below Hb5.out) Hb5.out.size).mono ?_
            rintro e w6 ⟨rfl, hb6⟩
            have Hb6 := Lib.hid hb6
            have hc6 := (hb6.cell (p := ⟨b, off + k, none⟩) (Nat.lt_of_lt_of_le hbl Hb5.out.size)).trans hc5
            clear hb6 hc5 hc0
            rw [decide_eq_true rfl]
            go_wp2_with fail
            go_ret
            exact ⟨rfl, HB4.out.trans ((Hb5.out.trans (Hb6.out.mono Hb5.out.size)).mono HB4.out.size)⟩
end Go.Proofs.Ytblccebcmfpjeaa
