import Derived.Test.YtkdkpnidiehdfaaDoorConv
import Derived.Test.YtkdkpnidiehdfaaDoorDd
set_option linter.unusedSimpArgs false
set_option linter.unusedVariables false
namespace Go.Proofs.YtkdkpnidiehdfaaDoor
open Go.RowKit

theorem E5 : El Tryd.prog 22 5 (.int .u8 0) 1 := ⟨Tryd.underlying22, by kernel_rfl, rfl⟩

/-- the marks behind a slice of n bytes that is lent. -/
def mark (i : Nat) : UInt8 := UInt8.ofNat (160 + i % 90)
def marks (n : Nat) : List UInt8 := [mark n, mark (n + 1), mark (n + 2)]
def lentL (l : List UInt8) (k : Nat) : List UInt8 := l ++ ((marks l.length).take k ++ List.replicate (3 - k) 0)
theorem lentL_three (l : List UInt8) : lentL l 3 = l ++ marks l.length := by simp [lentL, marks]
theorem lentL_length (l : List UInt8) (k : Nat) (h : k ≤ 3) : (lentL l k).length = l.length + 3 := by simp [lentL, marks]; omega
theorem lentL_set (l : List UInt8) (k : Nat) (h : k < 3) : (bcells (lentL l k)).set (l.length + k) (.int .u8 (160 + ((l.length + k : Nat) : Int) % 90)) = bcells (lentL l (k + 1)) := by
  have e : Value.int .u8 (160 + ((l.length + k : Nat) : Int) % 90) = .int .u8 ((mark (l.length + k)).toNat : Int) := by
    congr 1
    simp only [mark, UInt8.toNat_ofNat']
    omega
  rw [e]
  simp only [bcells, ← List.map_set]
  congr 1
  simp only [lentL]
  rw [List.set_append_right _ _ (by omega), Nat.add_sub_cancel_left]
  match k, h with
  | 0, _ | 1, _ | 2, _ => rfl
  | n + 3, h => omega

set_option maxRecDepth 100000 in
set_option maxHeartbeats 1000000 in
theorem lent_bytes (l : List UInt8) (hl : l.length ≤ 100000000) (A : Option Addr) (cap : Nat) (w : World) (hA : Bs w w.heap.size A l) :
    Calls Tryd.prog 15 #[.slice A l.length cap] w fun e w' => ∃ g, e = .returned (.slice (some ⟨g, 0, none⟩) l.length (l.length + 3)) ∧ w.heap.size ≤ g ∧
      w'.heap[g]? = some (.cells (bcells (l ++ marks l.length)).toArray 5 (0, 0)) ∧ Below w.heap.size w w' := by
  have HA := Lib.hid hA
  clear hA
  have hmk := fun W => run_make_el E5 (l.length + 3) ((l.length : Int) + 3) (by simp) (by omega) (by omega) W
  obtain ⟨w1, hcp, hw1, hb1⟩ := run_copy_fresh E5 3 w A (bcells l) l.length cap (l.length + 3) (bcells_length l) (by omega) HA.out.rd (bcells_one l)
  have Hw1 : Hid (w1.heap[w.heap.size]? = some (.cells (bcells (lentL l 0)).toArray 5 (0, 0))) := Lib.hid (by rw [hw1]; simp [lentL, bcells])
  have Hb1 := Lib.hid hb1
  clear hw1 hb1
  go_enter Tryd.func15, Tryd.ntmps15
  go_wp2
  clear hcp hmk
  generalize hg : w.heap.size = g
  rw [hg] at Hw1 Hb1
  have Hg := Lib.hid hg
  clear hg
  go_loopw [4] (fun i wr => ∃ k : Nat, k ≤ 3 ∧ i = .int .i64 ((l.length : Int) + k) ∧ wr.heap[g]? = some (.cells (bcells (lentL l k)).toArray 5 (0, 0)) ∧ Below g w wr) (fun i _ => l.length + 3 - (intOf i).toNat)
  case atStart => exact ⟨0, by omega, by go_num, Hw1.out, Hb1.out⟩
  case round =>
    obtain ⟨k, hk, rfl, hw, hb⟩ := hrel
    have Hw := Lib.hid hw
    have Hb := Lib.hid hb
    clear hw hb
    by_cases hlt : k < 3
    · have c1 : wr.cell? ⟨g, l.length + k, none⟩ = some (.int .u8 ((lentL l k).getD (l.length + k) 0).toNat) := by
        rw [cell_blk Hw.out]
        have := lentL_length l k hk
        simp [bcells, List.getD_eq_getElem?_getD, this, hlt]
      have c2 : wr.frozen? ⟨g, l.length + k, none⟩ = false := free_blk Hw.out _
      go_wp2
      go_roundw
      case rel => exact ⟨k + 1, by omega, by go_num, by
        rw [set_blk Hw.out, ← lentL_set l k hlt]; simp, Hb.out.setCell (by simp) _⟩
      case measure => simp [intOf]; omega
    · obtain rfl : k = 3 := by omega
      go_wp2
      go_ret
      exact ⟨g, rfl, Nat.le_of_eq Hg.out, by rw [Hw.out, lentL_three], by rw [Hg.out]; exact Hb.out⟩
end Go.Proofs.YtkdkpnidiehdfaaDoor
