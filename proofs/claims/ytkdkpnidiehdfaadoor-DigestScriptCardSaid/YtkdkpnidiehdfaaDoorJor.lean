/- the digest of parts joined, by the reference. -/
import Derived.Test.YtkdkpnidiehdfaaDoorJoin
set_option linter.unusedSimpArgs false
set_option linter.unusedVariables false
namespace Go.Proofs.YtkdkpnidiehdfaaDoor
open Go.RowKit

set_option maxRecDepth 100000 in
set_option maxHeartbeats 2000000 in
theorem join_ref (ls : List (List UInt8)) (hn : ls.length ≤ 1000) (hl : (joined ls).length ≤ 1000000) (A : Option Addr) (cap : Nat) (w : World) (hA : Ls w w.heap.size A ls) :
    Calls Tryd.prog 32 #[.slice A ls.length cap] w fun e w' => e = .returned (dg (sha (joined ls))) ∧ Below w.heap.size w w' := by
  have HA := Lib.hid hA; have HL := Lib.hid hl
  clear hA hl
  go_enter Tryd.func32, Tryd.ntmps32
  go_upto_region 1 with (fail)
  have Hsz : Hid ((bcells zeros32).toArray.size = 32) := Lib.hid rfl
  have hz := zeros_dg
  have Hdg : Hid (dg zeros32 = .agg (bcells zeros32).toArray) := Lib.hid rfl
  rw [Hdg.out] at hz
  injection hz with hz
  rw [← hz]
  clear hz
  generalize (bcells zeros32).toArray = zs at *
  generalize hw1 : World.alloc _ _ = w1
  have Hr : Hid (w1.heap[w.heap.size]? = some (.cells zs 25 (0, 0))) := Lib.hid (by subst hw1; exact heap_alloc_new _ _)
  have Hb1 : Hid (Below w.heap.size w w1) := Lib.hid (by subst hw1; exact (Below.refl _ _).alloc (Nat.le_refl _) _)
  clear hw1
  generalize hr : w.heap.size = r at *
  have HR := Lib.hid hr
  clear hr
  have Hr1 : Hid (r < w1.heap.size) := Lib.hid (lt_blk Hr.out)
  go_wp2_with fail
  go_loopw [3, 4] (fun v i wr => ∃ (k : Nat), k ≤ ls.length ∧ i = .int .i64 k ∧ wr.ownsRow w1.heap.size 5 1 v (joined (ls.take k)).length (bcells (joined (ls.take k))) ∧ Below w1.heap.size w1 wr) (fun _ i _ => ls.length - (intOf i).toNat)
  case atStart => exact ⟨0, by omega, rfl, World.ownsRow_nil _ _ _ _, Below.refl _ _⟩
  case round =>
    obtain ⟨k, hk, rfl, hown, hb⟩ := hrel
    have Hown := Lib.hid hown; have Hb := Lib.hid hb
    clear hown hb
    by_cases hlt : k < ls.length
    · obtain ⟨b, off, rfl, hbl, Ai, ci, hc, hs, hnil⟩ := HA.out k hlt
      have hbr := Hr1.out
      have hc1 := (Hb.out.cell (p := ⟨b, off + k, none⟩) (by show b < _; omega)).trans ((Hb1.out.cell (p := ⟨b, off + k, none⟩) hbl).trans hc)
      have Hs : Hid (Bs w1 r Ai (ls.getD k [])) := Lib.hid (hs.below Hb1.out)
      have Htk := Lib.hid (take_snoc' ls k hlt)
      have Htot : Hid ((joined (ls.take (k + 1))).length ≤ 1000000) := Lib.hid (Nat.le_trans (total_take ls (k + 1)) HL.out)
      have Hnil := Lib.hid hnil
      have Hcc : Hid (∀ W, Below w1.heap.size w1 W → W.cell? ⟨b, off + k, none⟩ = some (.slice Ai (ls.getD k []).length ci)) := Lib.hid (fun W hW => (hW.cell (p := ⟨b, off + k, none⟩) (by show b < _; omega)).trans ((Hb1.out.cell (p := ⟨b, off + k, none⟩) hbl).trans hc))
      clear hc hs hnil hbr
      generalize ls.getD k [] = l at *
      have Hj : Hid (joined (ls.take (k + 1)) = joined (ls.take k) ++ eight l.length ++ l) := Lib.hid (by rw [Htk.out, joined_app, joined_one]; simp)
      have Hlen : Hid ((joined (ls.take k)).length + 8 + l.length ≤ 1000000) := Lib.hid (by have := Htot.out; rw [Hj.out] at this; simp [eight_len] at this; omega)
      have Hjl : Hid ((joined (ls.take (k + 1))).length = (joined (ls.take k)).length + 8 + l.length) := Lib.hid (by rw [Hj.out]; simp [eight_len]; omega)
      generalize hjk : joined (ls.take k) = jk at *
      have hl64 : l.length ≤ 1000000 := by have := Hlen.out; omega
      go_wp2_with fail
      refine (eight_any l.length (by omega) wr).mono ?_
      rintro e W ⟨v8, rfl, hown8, hbW⟩
      obtain ⟨A8, c8, rfl, hrd8, hnil8, _⟩ := own_rd hown8
      have Hrd8 := Lib.hid hrd8; have Hnil8 := Lib.hid hnil8
      have HownW := Lib.hid (own_below Hown.out hbW)
      have HbW := Lib.hid (Hb.out.trans (hbW.mono Hb.out.size))
      clear hown8 hrd8 hnil8 hbW
      go_upto_region 6 with (at_builtin; refine wpList_append_src E5 rfl (.tmp 11) (.tmp 18) rfl w1.heap.size _ jk.length _ rfl HownW.out W.heap.size A8 (bcells (eight l.length)) 8 c8 rfl rfl Hrd8.out Hnil8.out (bcells_one _) (by have := Hlen.out; omega) (by omega) w1 (Nat.le_refl _) HbW.out ?_; intro v2 W2 h2 h3 h4 h5; clear h4 h5; have H2 := Lib.hid h2; have H3 := Lib.hid h3; clear h2 h3)
      have hc2 := Hcc.out W2 H3.out
      have hk1 : (0 : Int) ≤ k := by omega
      have hk2 : (k : Int) < (ls.length : Int) := by omega
      go_wp2_with (at_builtin; refine wpList_append_src E5 rfl (.tmp 20) (.tmp 24) rfl w1.heap.size _ (jk.length + 8) _ rfl H2.out r Ai (bcells l) l.length ci rfl (bcells_length l) ((Hs.out.below (H3.out.mono (Nat.le_of_lt Hr1.out))).rd) (fun h => by rw [Hnil.out h]; rfl) (bcells_one _) (by have := Hlen.out; omega) (by omega) w1 (Nat.le_refl _) H3.out ?_; intro v3 W3 h2 h3 h4 h5; clear h4 h5; have H4 := Lib.hid h2; have H5 := Lib.hid h3; clear h2 h3)
      go_roundw
      case rel => exact ⟨k + 1, by omega, by go_num, by
        have h := H4.out
        rw [← bcells_app, ← bcells_app] at h
        rw [Hjl.out, Hj.out]; exact h, H5.out⟩
      case measure => simp [intOf]; omega
    · obtain rfl : k = ls.length := by omega
      rw [List.take_length] at Hown
      obtain ⟨A2, c2, rfl, hrd, hnil, _⟩ := own_rd Hown.out
      have Hrd := Lib.hid hrd.bs; have Hnil := Lib.hid hnil
      clear hrd hnil
      go_wp2_with fail
      refine (sum_ref (joined ls) (by have := HL.out; omega) A2 c2 (fun h => List.eq_nil_of_length_eq_zero (Hnil.out h)) wr Hrd.out).mono ?_
      rintro e W ⟨rfl, hbW⟩
      have HrW : Hid (W.heap[r]? = some (.cells zs 25 (0, 0))) := Lib.hid ((hbW.block r (Nat.lt_of_lt_of_le Hr1.out Hb.out.size)).trans ((Hb.out.block r Hr1.out).trans Hr.out))
      have HbW : Hid (Below r w W) := Lib.hid (Hb1.out.trans ((Hb.out.trans (hbW.mono Hb.out.size)).mono (Nat.le_of_lt Hr1.out)))
      clear hbW
      have Hsl : Hid ((bcells (sha (joined ls))).toArray.size = 32) := Lib.hid (by simp [bcells, sha_length])
      have Hon2 : Hid ((bcells (sha (joined ls))).toArray.all (·.oneCell') = true) := Lib.hid (by
        rw [Array.all_eq_true_iff_forall_mem]; intro x hx; exact bcells_one _ x (by simpa using hx))
      have Hdd : Hid (dg (sha (joined ls)) = .agg (bcells (sha (joined ls))).toArray) := Lib.hid rfl
      rw [Hdd.out]
      generalize (bcells (sha (joined ls))).toArray = ys at *
      go_wp2_with (refine wpList_store_row (o := ⟨none, .store 25 (.tmp 2) (.tmp 27), _, _, _, _⟩) rfl _ _ _ rfl r ys rfl rfl _ zs HrW.out (by rw [Hsl.out]; kernel_rfl) (by rw [Hsl.out, Hsz.out]) Hon2.out ?_)
      refine bodyPost_ret (results_cell_row rfl _ _ r 25 ys (0, 0) _ rfl (setRow_heap _ _ _ ys _ (0, 0) HrW.out) Tryd.underlying25 rfl (by rw [Hsl.out]; kernel_rfl)) rfl ⟨by rw [Hdd.out], ?_⟩
      rw [HR.out]
      exact below_setRow HbW.out (Nat.le_refl _) _
end Go.Proofs.YtkdkpnidiehdfaaDoor
