/- contracts: bytes written over, bytes copied. -/
import Derived.Test.YtbmpjphemjponaaKg
import Derived.Test.YtbmpjphemjponaaKq
set_option linter.unusedSimpArgs false
set_option linter.unusedVariables false
namespace Go.Proofs.Ytbmpjphemjponaa
open Go.RowKit

/-- a row of numbers of one byte. -/
def Any8 (w : World) (g n : Nat) : Prop := ∃ cs, w.heap[g]? = some (.cells cs 5 (0, 0)) ∧ cs.size = n ∧ ∀ j, j < n → ∃ z, cs[j]? = some (.int .u8 z)

set_option maxRecDepth 100000 in
set_option maxHeartbeats 1000000 in
theorem over_any (g n c : Nat) (hn : c ≤ 1000000) (w : World) (hg : Any8 w g c) :
    Calls Try.prog 63 #[.slice (some ⟨g, 0, none⟩) n c] w fun e w' => e = .returned (.tuple #[]) ∧ w.grownBy w' (some g) := by
  have HG := Lib.hid hg
  clear hg
  go_enter Try.func63, Try.ntmps63
  go_wp2_with fail
  go_loopw [3] (fun i wr => ∃ k : Nat, k ≤ c ∧ i = .int .i64 (k : Int) ∧ Any8 wr g c ∧ w.grownBy wr (some g)) (fun i _ => c - (intOf i).toNat)
  case atStart => exact ⟨0, by omega, by go_num, HG.out, World.grownBy.refl w _⟩
  case round =>
    obtain ⟨k, hk, rfl, ha, hb⟩ := hrel
    have Hb := Lib.hid hb
    clear hb
    by_cases hlt : k < c
    · obtain ⟨cs, h1, h2, h3⟩ := ha
      obtain ⟨z, hz⟩ := h3 k hlt
      have H1 := Lib.hid h1; have H2 := Lib.hid h2; have H3 := Lib.hid h3
      have c1 : wr.cell? ⟨g, k, none⟩ = some (.int .u8 z) := by
        rw [cell_blk h1]; exact hz
      have c2 : wr.frozen? ⟨g, k, none⟩ = false := free_blk h1 _
      clear h1 h2 h3 hz
      go_wp2_with fail
      go_roundw
      case rel => 
        refine ⟨k + 1, by omega, by go_num, ?_, grown_setCell Hb.out rfl _⟩
        refine ⟨_, set_blk H1.out _ _, by simp [H2.out], fun j hj => ?_⟩
        by_cases e : j = k
        · subst e
          exact ⟨_, by rw [Array.getElem?_setIfInBounds_self]; simp [H2.out, hlt]; rfl⟩
        · obtain ⟨z', hz'⟩ := H3.out j hj
          exact ⟨z', by rw [Array.getElem?_setIfInBounds_ne (Ne.symm e)]; exact hz'⟩
      case measure => simp [intOf]; omega
    · obtain rfl : k = c := by omega
      go_wp2_with fail
      go_end0
      exact ⟨rfl, Hb.out⟩

set_option maxRecDepth 100000 in
set_option maxHeartbeats 1000000 in
theorem copy_any (l : List UInt8) (hl : l.length ≤ 1000000) (A : Option Addr) (cap : Nat) (w : World) (hA : Bs w w.heap.size A l) (hA0 : A = none → l = []) :
    Calls Try.prog 27 #[.slice A l.length cap] w fun e w' => ∃ v, e = .returned v ∧ w'.ownsRow w.heap.size 5 1 v l.length (bcells l) ∧ Below w.heap.size w w' := by
  have HA := Lib.hid hA; have HA0 := Lib.hid hA0
  clear hA hA0
  go_enter Try.func27, Try.ntmps27
  have hown : (w.alloc (.cells #[] 5)).ownsRow w.heap.size 5 1 (.slice (some ⟨w.heap.size, 0, none⟩) 0 0) 0 (bcells []) := by
    exact World.ownsRow_made w #[] 0 (Nat.le_refl _) (by simp [maxLen]) rfl
  have Hown := Lib.hid hown
  have Hb0 : Hid (Below w.heap.size w (w.alloc (.cells #[] 5))) := Lib.hid ((Below.refl _ _).alloc (Nat.le_refl _) _)
  have Hrd : Hid (Rd (w.alloc (.cells #[] 5)) w.heap.size A (bcells l)) := Lib.hid (HA.out.below Hb0.out).rd
  clear hown
  go_wp2_with (refine wpList_append_src E5 rfl (.tmp 3) (.tmp 4) rfl w.heap.size _ 0 (bcells []) rfl Hown.out w.heap.size A (bcells l) l.length cap rfl (bcells_length l) Hrd.out (fun h => by rw [HA0.out h]; rfl) (bcells_one l) (by omega) (by omega) w (Nat.le_refl _) Hb0.out ?_; intro v' w' h2 h3 h4 h5; clear h4 h5; have H2 := Lib.hid h2; have H3 := Lib.hid h3; clear h2 h3)
  go_ret
  exact ⟨v', rfl, by simpa [bcells] using H2.out, H3.out⟩

end Go.Proofs.Ytbmpjphemjponaa
