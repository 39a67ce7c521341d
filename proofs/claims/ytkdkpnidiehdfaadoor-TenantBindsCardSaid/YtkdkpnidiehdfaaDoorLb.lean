import Derived.Test.YtkdkpnidiehdfaaDoorDl
import Derived.Test.YtkdkpnidiehdfaaDoorLa
set_option linter.unusedSimpArgs false
set_option linter.unusedVariables false
namespace Go.Proofs.YtkdkpnidiehdfaaDoor
open Go.RowKit

theorem alloc_new1 (w : World) (o : Obj) (cs : Array Value) (T : TypeId) : ((w.alloc o).alloc (.cells cs T)).heap[w.heap.size + 1]? = some (.cells cs T (0, 0)) := by
  have := heap_alloc_new (w.alloc o) (.cells cs T)
  simpa using this
theorem neq_dig (a b : List UInt8) (ha : a.length = 32) (hb : b.length = 32) (w : World) : (binOp .neq 25 (dg a) (dg b)).run Tryd.prog w = .ok (.bool (!decide (a = b))) w := by
  have h := eql_dig a b ha hb w
  unfold dg at h ⊢
  rw [run_eql_struct] at h
  rw [run_neq_struct]
  cases hq : (Op.equalIn 10000 25 (.agg (bcells a).toArray) (.agg (bcells b).toArray)).run Tryd.prog w with
  | ok v w' => rw [hq] at h; simp at h ⊢; exact ⟨by rw [h.1], h.2⟩
  | halt x w' => rw [hq] at h; simp at h

theorem zlit_neq (v : Value) (hv : dg zeros32 = v) : ∀ W, (binOp .neq 25 (dg zeros32) v).run Tryd.prog W = .ok (.bool false) W := by
  subst hv
  intro W
  have := neq_dig zeros32 zeros32 rfl rfl W
  simpa using this
theorem zlit_guard (v : Value) (hv : dg zeros32 = v) : ∀ op x y W, (eqGuard op 25 x y (dg zeros32) v).run Tryd.prog W = .ok () W := by
  subst hv
  exact fun op x y W => eqg_dig op x y _ _ W

set_option maxRecDepth 100000 in
set_option maxHeartbeats 1000000 in
theorem nil_walk (l : List UInt8) (A : Option Addr) (cap : Nat) (w : World) (hA : Bs w w.heap.size A l) (hA0 : A = none → l = []) (hk : KMem w) :
    Calls Tryd.prog 4 #[.slice A l.length cap] w fun e w' => e = .returned (.bool true) ∧ Below w.heap.size w w' := by
  clear hA hA0 hk
  go_enter Tryd.func4, Tryd.ntmps4
  go_wp2_with fail
  generalize hw2 : World.alloc (World.alloc _ _) _ = w2
  have hc : w2.cell? ⟨w.heap.size, 73, none⟩ = some (.bool false) := by
    subst hw2
    rw [World.cell?_alloc_lt _ _ _ (by simp), cell_blk (heap_alloc_new _ _)]; kernel_rfl
  have h0 : w2.cell? ⟨w.heap.size + 1, 0, none⟩ = some (.pointer none) := by
    subst hw2
    rw [cell_blk (alloc_new1 _ _ _ _)]; rfl
  have h1 : w2.cell? ⟨w.heap.size + 1, 1, none⟩ = some (.pointer (some ⟨w.heap.size, 0, none⟩)) := by
    subst hw2
    rw [cell_blk (alloc_new1 _ _ _ _)]; rfl
  have hb2 : Below w.heap.size w w2 := by subst hw2; exact ((Below.refl _ _).alloc (Nat.le_refl _) _).alloc (by simp) _
  have hs2 : w2.heap.size = w.heap.size + 2 := by subst hw2; simp
  have Hc := Lib.hid hc; have H0 := Lib.hid h0; have H1 := Lib.hid h1; have Hb2 := Lib.hid hb2; have Hs2 := Lib.hid hs2
  clear hw2 hc h0 h1 hb2 hs2
  go_loopw [4] (fun i wr => ∃ k : Nat, k ≤ 2 ∧ i = .int .i64 k ∧ Below w2.heap.size w2 wr) (fun i _ => 2 - (intOf i).toNat)
  case atStart => exact ⟨0, by omega, rfl, Below.refl _ _⟩
  case round =>
    obtain ⟨k, hk, rfl, hb⟩ := hrel
    have Hb := Lib.hid hb
    clear hb
    by_cases hlt : k < 2
    · have hv : ∃ v, wr.cell? ⟨w.heap.size + 1, k, none⟩ = some v ∧ NoHash wr v := by
        have hs := Hs2.out
        match k, hlt with
        | 0, _ => exact ⟨_, (Hb.out.cell (p := ⟨w.heap.size + 1, 0, none⟩) (by show w.heap.size + 1 < _; omega)).trans H0.out, .inl rfl⟩
        | 1, _ => exact ⟨_, (Hb.out.cell (p := ⟨w.heap.size + 1, 1, none⟩) (by show w.heap.size + 1 < _; omega)).trans H1.out, .inr ⟨_, rfl, (Hb.out.cell (p := ⟨w.heap.size, 73, none⟩) (by show w.heap.size < _; omega)).trans Hc.out⟩⟩
      obtain ⟨v, hv, hn⟩ := hv
      have Hn := Lib.hid hn
      clear hn
      go_wp2_with fail
      refine (write_no v _ _ Hn.out).mono ?_
      rintro e w' ⟨rfl, rfl⟩
      go_wp2_with fail
      refine (sum_no v _ Hn.out).mono ?_
      rintro e w3 ⟨rfl, hb3⟩
      have Hb3 := Lib.hid hb3
      have Hn3 := Lib.hid (Hn.out.keep fun b o hlt => hb3.cell (p := ⟨b, o, none⟩) hlt)
      clear hb3
      have hzn := zlit_neq _ zeros_dg
      have hzg := zlit_guard _ zeros_dg
      go_wp2_with fail
      refine (len_no v _ Hn3.out).mono ?_
      rintro e w' ⟨rfl, rfl⟩
      go_wp2_with fail
      refine (clone_no v _ Hn3.out).mono ?_
      rintro e w' ⟨rfl, rfl⟩
      go_wp2_with fail
      go_roundw
      case rel => exact ⟨k + 1, by omega, by go_num, Hb.out.trans (Hb3.out.mono Hb.out.size)⟩
      case measure => simp [intOf]; omega
    · obtain rfl : k = 2 := by omega
      go_wp2_with fail
      go_ret
      have := Hs2.out
      exact ⟨rfl, Hb2.out.trans (Hb.out.mono (by omega))⟩
end Go.Proofs.YtkdkpnidiehdfaaDoor
