/- disk.Used. -/
import Derived.Test.YtjbpgjfnccmdaaaMg1
import Derived.Test.YtjbpgjfnccmdaaaMi
set_option linter.unusedSimpArgs false
set_option linter.unusedVariables false
namespace Go.Proofs.Ytjbpgjfnccmdaaa
open Go.RowKit

set_option maxRecDepth 100000 in
set_option maxHeartbeats 2000000 in
theorem used_at {w : World} {p m : Nat} {d : Dk} (h : DiskAt w p m d) : Calls Try.prog 42 #[.pointer (some ⟨p, 0, none⟩)] w fun e w' => e = .returned (.int .i64 (d.used : Int)) ∧ Below w.heap.size w w' := by
  obtain ⟨vs, hm, ha⟩ := h.files
  have HM := Lib.hid hm; have HA := Lib.hid ha; have HN := Lib.hid h.ok.rising.nodup
  have HU : Hid (d.used ≤ 67108864) := Lib.hid (Nat.le_trans h.ok.used h.ok.size)
  have H0 := Lib.hid (none_at h)
  have c1 := cell_blk h.own 1
  simp only [List.getElem?_toArray, List.getElem?_cons_succ, List.getElem?_cons_zero] at c1
  clear h hm ha
  go_enter Try.func42, Try.ntmps42
  go_wp2_with fail
  refine H0.out.mono ?_
  rintro e w1 ⟨rfl, rfl⟩
  go_wp2_with (at_range; refine wpList_rangeN HM.out Try.underlying9 Try.underlying42 rfl _ rfl rfl ?_; intro w3 h4 h5 h6; have HR := Lib.hid h4; have HG := Lib.hid h5; clear h4 h5 h6)
  have hmr : m < w1.heap.size := HM.out.lt
  have HB0 : Hid (Below w1.heap.size w1 w3) := Lib.hid ⟨HG.out.os, HG.out.tape, HG.out.output, HG.out.size, fun k hk => HG.out.block k hk (by simp)⟩
  have hs0 : nsum flen (nhas vs) d.fs = d.used := nsum_all flen _ _ fun q hq => by
    have h1 := (HA.out.get q.1)
    have h2 := nhas_mem hq
    rw [nhas_get] at h2 ⊢
    rcases h1 with ⟨e1, e2⟩ | ⟨a, b, e1, e2, _⟩
    · rw [e2] at h2; cases h2
    · rw [e1]; rfl
  have HS0 := Lib.hid hs0
  clear hs0
  generalize hr : w1.heap.size = r at *
  go_frame
  go_loopw [3, 5] (fun nv _ wk => ∃ (L : Nm → Bool) (cnt s : Nat), nv = .int .i64 s ∧ RangeN Try.prog 9 wk m r vs L cnt ∧ s + nsum flen L d.fs = d.used ∧ Below r w1 wk) (fun _ _ wk => wk.rangeLeft m r)
  case atStart => exact ⟨_, _, 0, rfl, HR.out, by rw [HS0.out]; omega, HB0.out⟩
  case round =>
    obtain ⟨L, cnt, s, rfl, hR, hsum, hb⟩ := hrel
    have HR4 := Lib.hid hR; have HSM := Lib.hid hsum; have HB := Lib.hid hb
    clear hR hsum hb
    go_wp2_with (at_next; refine wpList_nextN HR4.out Try.underlying9 rfl _ rfl rfl ?_ ?_)
    · intro h0 hl0
      have hs : s = d.used := by have := HSM.out; rw [nsum_none flen _ hl0] at this; omega
      have HS := Lib.hid hs
      clear hl0 hs
      go_wp2_with fail
      go_ret
      exact ⟨by rw [← HS.out]; rfl, by rw [hr]; exact HB.out⟩
    · intro k v w5 cn5 hLk hget hR5 hlt5 hg5 hsz5 hen
      have h1 : ∃ f, nget d.fs k = some f ∧ FileV w1 v f := by
        rcases HA.out.get k with ⟨e1, e2⟩ | ⟨a, b, e1, e2, e3⟩
        · rw [hget] at e1; cases e1
        · rw [hget] at e1; injection e1 with e1; subst e1; exact ⟨b, e2, e3⟩
      obtain ⟨f, hf, A, cap, rfl, _, _, _, hfl, _⟩ := h1
      have HSM2 : Hid (s + f.b.length + nsum flen (fun y => L y && !(y == k)) d.fs = d.used) := Lib.hid (by
        have h2 := nsum_step flen L k f d.fs HN.out hf hLk
        have h3 := HSM.out
        have h4 : flen f = f.b.length := rfl
        omega)
      have hsb : s + f.b.length ≤ 67108864 := by have := HSM2.out; have := HU.out; omega
      have HR5 := Lib.hid hR5
      have HB5 : Hid (Below r w1 w5) := Lib.hid (HB.out.trans ⟨hg5.os, hg5.tape, hg5.output, by have := hg5.size; have := HB.out.size; omega, fun k' hk' => hg5.block k' (by have := HB.out.size; omega) (by intro e; injection e with e; omega)⟩)
      clear hR5 hg5 hsz5 hget hLk hf
      go_wp2_with fail
      go_roundw
      case rel =>
        have hb1 := below_alloc w5 (.cells #[.slice A f.b.length cap, .int .i64 f.safe, .bool f.kept] 79)
        exact ⟨_, cn5, s + f.b.length, by go_num, HR5.out.kept (row := none) ⟨hb1.os, hb1.tape, hb1.output, hb1.size, fun k' h1 _ => hb1.block k' h1⟩ (by simp) (by simp), HSM2.out, HB5.out.trans (hb1.mono (by have := HB5.out.size; omega))⟩
      case measure =>
        have hb1 := below_alloc w5 (.cells #[.slice A f.b.length cap, .int .i64 f.safe, .bool f.kept] 79)
        rw [(HR5.out.kept (row := none) ⟨hb1.os, hb1.tape, hb1.output, hb1.size, fun k' h1 _ => hb1.block k' h1⟩ (by simp) (by simp)).left_eq, HR4.out.left_eq]; exact hlt5
end Go.Proofs.Ytjbpgjfnccmdaaa
