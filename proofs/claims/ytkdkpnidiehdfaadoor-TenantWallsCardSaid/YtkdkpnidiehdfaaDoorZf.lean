/- the tenants of the examples; a table under way. -/
import Derived.Test.YtkdkpnidiehdfaaDoorZe
set_option linter.unusedSimpArgs false
set_option linter.unusedVariables false
namespace Go.Proofs.YtkdkpnidiehdfaaDoor
open Go.RowKit

def tok1 : List UInt8 := [75, 245, 18, 47, 52, 69, 84, 197, 59, 222, 46, 187, 140, 210, 183, 227, 209, 96, 10, 214, 49, 195, 133, 165, 215, 204, 226, 60, 119, 133, 69, 154]
def tok2 : List UInt8 := [219, 193, 180, 201, 0, 255, 228, 141, 87, 91, 93, 165, 198, 56, 4, 1, 37, 246, 93, 176, 254, 62, 36, 73, 75, 118, 234, 152, 100, 87, 217, 134]
def tok3 : List UInt8 := [8, 79, 237, 8, 185, 120, 175, 77, 125, 25, 106, 116, 70, 168, 107, 88, 0, 158, 99, 107, 97, 29, 177, 98, 17, 182, 90, 154, 173, 255, 41, 197]
set_option maxRecDepth 100000 in
theorem sha_one : sha [1] = tok1 := by decide +kernel
set_option maxRecDepth 100000 in
theorem sha_two : sha [2] = tok2 := by decide +kernel
set_option maxRecDepth 100000 in
theorem sha_three : sha [3] = tok3 := by decide +kernel
theorem dg_tok1 : dg tok1 = .agg #[.int .u8 75, .int .u8 245, .int .u8 18, .int .u8 47, .int .u8 52, .int .u8 69, .int .u8 84, .int .u8 197, .int .u8 59, .int .u8 222, .int .u8 46, .int .u8 187, .int .u8 140, .int .u8 210, .int .u8 183, .int .u8 227, .int .u8 209, .int .u8 96, .int .u8 10, .int .u8 214, .int .u8 49, .int .u8 195, .int .u8 133, .int .u8 165, .int .u8 215, .int .u8 204, .int .u8 226, .int .u8 60, .int .u8 119, .int .u8 133, .int .u8 69, .int .u8 154] := by kernel_rfl
theorem dg_tok2 : dg tok2 = .agg #[.int .u8 219, .int .u8 193, .int .u8 180, .int .u8 201, .int .u8 0, .int .u8 255, .int .u8 228, .int .u8 141, .int .u8 87, .int .u8 91, .int .u8 93, .int .u8 165, .int .u8 198, .int .u8 56, .int .u8 4, .int .u8 1, .int .u8 37, .int .u8 246, .int .u8 93, .int .u8 176, .int .u8 254, .int .u8 62, .int .u8 36, .int .u8 73, .int .u8 75, .int .u8 118, .int .u8 234, .int .u8 152, .int .u8 100, .int .u8 87, .int .u8 217, .int .u8 134] := by kernel_rfl
def twoT : List Tn := [⟨[97], tok1, 60000, 1, 1⟩, ⟨[98], tok2, 60000, 1, 2⟩]
theorem twoT_toks : Toks twoT := by
  intro x hx
  simp only [twoT, List.mem_cons, List.not_mem_nil, or_false] at hx
  rcases hx with rfl | rfl <;> rfl
set_option maxRecDepth 100000 in
theorem chk_two : chk twoT = 0 := by decide +kernel

theorem sum_lit (c : UInt8) (d : List UInt8) (hd : sha [c] = d) (w : World) (hk : KMem w) (g : Nat) (hg : w.heap[g]? = some (.cells #[.int .u8 c.toNat] 5 (0, 0))) : Calls Tryd.prog 16 #[.slice (some ⟨g, 0, none⟩) 1 1] w fun e w' => e = .returned (dg d) ∧ Below w.heap.size w w' := by
  have hb : Bs w w.heap.size (some ⟨g, 0, none⟩) [c] := Bs.blk (T := 5) hg
  refine (dig_sum [c] (by simp) (some ⟨g, 0, none⟩) 1 w hb hk).mono ?_
  rintro e w' ⟨rfl, h2⟩
  exact ⟨by rw [finish_sha, hd], h2⟩
theorem KMem.ext {w w' : World} (h : KMem w) (hb : Below w.heap.size w w') : KMem w' := KMem.below h hb h.pos
set_option maxRecDepth 100000 in
set_option maxHeartbeats 4000000 in
theorem two_at (w : World) (hk : KMem w) : Calls Tryd.prog 38 #[] w fun e w' => ∃ g, e = .returned (.slice (some ⟨g, 0, none⟩) 2 2) ∧ w'.heap[g]? = some (.cells (tnc twoT).toArray 77 (0, 0)) ∧ w.heap.size ≤ g ∧ Below w.heap.size w w' := by
  have HK := Lib.hid hk
  clear hk
  have HC : Hid (∀ w1, Below w.heap.size w w1 → KMem w1) := Lib.hid fun w1 hb => HK.out.ext hb
  clear HK
  go_enter Tryd.func38, Tryd.ntmps38
  go_wp2_with fail
  refine (sum_lit 1 tok1 sha_one _ (HC.out _ (below_alloc _ _)) w.heap.size (heap_alloc_new _ _)).mono ?_
  rintro e w1 ⟨rfl, hb1⟩
  have HB1 : Hid (Below w.heap.size w w1) := Lib.hid ((below_alloc w _).trans (hb1.mono (below_alloc w _).size))
  clear hb1
  rw [dg_tok1]
  go_wp2_with fail
  refine (sum_lit 2 tok2 sha_two _ (HC.out _ (HB1.out.trans ((below_alloc w1 _).mono HB1.out.size))) w1.heap.size (heap_alloc_new _ _)).mono ?_
  rintro e w2 ⟨rfl, hb2⟩
  have HB2 : Hid (Below w.heap.size w w2) := Lib.hid ((HB1.out.trans ((below_alloc w1 _).mono HB1.out.size)).trans (hb2.mono (by have := HB1.out.size; simp; omega)))
  clear hb2
  rw [dg_tok2]
  go_wp2_with fail
  go_ret
  exact ⟨w2.heap.size, rfl, heap_alloc_new _ _, HB2.out.size, HB2.out.trans ((below_alloc w2 _).mono HB2.out.size)⟩
end Go.Proofs.YtkdkpnidiehdfaaDoor
