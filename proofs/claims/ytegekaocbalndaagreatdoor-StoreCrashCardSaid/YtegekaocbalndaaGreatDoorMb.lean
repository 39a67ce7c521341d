/- disks in memory: New, none. -/
import Derived.Test.YtegekaocbalndaaGreatDoorMg19
import Derived.Test.YtegekaocbalndaaGreatDoorOf
set_option linter.unusedSimpArgs false
set_option linter.unusedVariables false
namespace Go.Proofs.YtegekaocbalndaaGreatDoor
open Go.RowKit

/-- a file's value. -/
def FileV (w : World) (v : Value) (f : Fl) : Prop := ∃ A cap, v = .agg #[.slice A f.b.length cap, .int .i64 f.safe, .bool f.kept] ∧ Bs w w.heap.size A f.b ∧ f.b.length ≤ cap ∧ f.safe ≤ f.b.length ∧ f.b.length ≤ 67108864 ∧ (A = none → f.b = [])
/-- block p is a disk whose files are in block m. -/
structure DiskAt (w : World) (p m : Nat) (d : Dk) : Prop where
  own : w.heap[p]? = some (.cells #[.int .i64 d.size, .map (some m), .int .i64 d.left, .int .i64 d.writes] 53)
  ok : d.Ok
  files : ∃ vs, MapN Tryz.prog 9 w m vs ∧ Alike (FileV w) vs d.fs
/-- all but two blocks stay. -/
structure Dw (w w' : World) (p m : Nat) : Prop where
  os : w'.os = w.os
  tape : w'.tape = w.tape
  output : w'.output = w.output
  size : w.heap.size ≤ w'.heap.size
  block : ∀ k, k < w.heap.size → k ≠ p → k ≠ m → w'.heap[k]? = w.heap[k]?
theorem Dw.refl (w : World) (p m : Nat) : Dw w w p m := ⟨rfl, rfl, rfl, Nat.le_refl _, fun _ _ _ _ => rfl⟩
theorem Dw.trans {a b c : World} {p m : Nat} (h : Dw a b p m) (h2 : Dw b c p m) : Dw a c p m :=
  ⟨h2.os.trans h.os, h2.tape.trans h.tape, h2.output.trans h.output, Nat.le_trans h.size h2.size, fun k hk h3 h4 => (h2.block k (Nat.lt_of_lt_of_le hk h.size) h3 h4).trans (h.block k hk h3 h4)⟩
theorem Dw.of_below {w w' : World} {p m : Nat} (h : Below w.heap.size w w') : Dw w w' p m := ⟨h.os, h.tape, h.output, h.size, fun k hk _ _ => h.block k hk⟩
theorem DiskAt.lt {w : World} {p m : Nat} {d : Dk} (h : DiskAt w p m d) : p < w.heap.size := (Array.getElem?_eq_some_iff.1 h.own).1
theorem DiskAt.ltm {w : World} {p m : Nat} {d : Dk} (h : DiskAt w p m d) : m < w.heap.size := by
  obtain ⟨vs, h1, _⟩ := h.files
  exact h1.lt
theorem DiskAt.ne {w : World} {p m : Nat} {d : Dk} (h : DiskAt w p m d) : m ≠ p := by
  obtain ⟨vs, ⟨es, c, h1, _⟩, _⟩ := h.files
  rintro rfl
  rw [h.own] at h1
  cases h1
/-- a block of bytes is neither of a disk's. -/
theorem DiskAt.apart {w : World} {p m : Nat} {d : Dk} (h : DiskAt w p m d) {b i : Nat} {c : Int} (hc : w.cell? ⟨b, i, none⟩ = some (.int .u8 c)) : b ≠ p ∧ b ≠ m := by
  constructor
  · rintro rfl
    rw [cell_blk h.own] at hc
    match i, hc with
    | 0, hc => cases hc
    | 1, hc => cases hc
    | 2, hc => cases hc
    | 3, hc => cases hc
    | i + 4, hc => simp at hc
  · rintro rfl
    obtain ⟨vs, ⟨es, c, h1, _⟩, _⟩ := h.files
    simp [World.cell?, h1] at hc
theorem Dw.cell {w w' : World} {p m : Nat} (h : Dw w w' p m) {b i : Nat} (hb : b < w.heap.size) (h1 : b ≠ p) (h2 : b ≠ m) : w'.cell? ⟨b, i, none⟩ = w.cell? ⟨b, i, none⟩ := World.cell?_of_block (h.block b hb h1 h2)
theorem DiskAt.bs {w w' : World} {p m : Nat} {d : Dk} (h : DiskAt w p m d) (hd : Dw w w' p m) {B : Nat} (hB : B ≤ w.heap.size) {A : Option Addr} {l : List UInt8} (hl : Bs w B A l) : Bs w' B A l := fun j hj => by
  obtain ⟨b, off, h1, h2, h3⟩ := hl j hj
  obtain ⟨h4, h5⟩ := h.apart h3
  exact ⟨b, off, h1, h2, (hd.cell (by omega) h4 h5).trans h3⟩
theorem DiskAt.fileV {w w' : World} {p m : Nat} {d : Dk} (h : DiskAt w p m d) (hd : Dw w w' p m) {v : Value} {f : Fl} (hv : FileV w v f) : FileV w' v f := by
  obtain ⟨A, cap, h1, h2, h3⟩ := hv
  exact ⟨A, cap, h1, (h.bs hd (Nat.le_refl _) h2).more hd.size, h3⟩
/-- a world that has both blocks as they were. -/
theorem DiskAt.below {w w' : World} {p m : Nat} {d : Dk} (h : DiskAt w p m d) (hb : Below w.heap.size w w') : DiskAt w' p m d := by
  obtain ⟨vs, h1, h2⟩ := h.files
  exact ⟨(hb.block p h.lt).trans h.own, h.ok, vs, h1.at (hb.block m h.ltm), h2.mono fun v f hv => h.fileV (.of_below hb) hv⟩
set_option maxRecDepth 100000 in
set_option maxHeartbeats 2000000 in
theorem new_at (n : Nat) (h1 : 1 ≤ n) (h2 : n ≤ 67108864) (w : World) : Calls Tryz.prog 6 #[.int .i64 n] w fun e w' => e = .returned (.tuple #[.pointer (some ⟨w.heap.size + 1, 0, none⟩), .int .i64 0]) ∧ DiskAt w' (w.heap.size + 1) w.heap.size (emptyDk n) ∧ Below w.heap.size w w' := by
  have hmm := @run_makeMap Tryz.prog
  go_enter Tryz.func6, Tryz.ntmps6
  go_wp2_with fail
  go_ret2
  refine ⟨rfl, ⟨?_, emptyDk_ok n h2, [], ?_, trivial⟩, ?_⟩
  · have h := heap_alloc_new (w.alloc (.map #[] 0)) (.cells #[.int .i64 n, .map (some w.heap.size), .int .i64 (-1), .int .i64 0] 53)
    rw [show (w.alloc (.map #[] 0)).heap.size = w.heap.size + 1 by simp] at h
    exact h
  · refine (MapN.made Tryz.prog 9 w).at ?_
    exact ((Below.refl _ _).alloc (Nat.le_refl _) _).block _ (by simp)
  · exact ((Below.refl _ _).alloc (Nat.le_refl _) _).alloc (by simp) _
set_option maxRecDepth 100000 in
set_option maxHeartbeats 2000000 in
theorem none_at {w : World} {p m : Nat} {d : Dk} (h : DiskAt w p m d) : Calls Tryz.prog 32 #[.pointer (some ⟨p, 0, none⟩)] w fun e w' => e = .returned (.bool false) ∧ w' = w := by
  have hm := fun (w : World) (r : Option Nat) => run_eql_map_nil w 51 9 78 r Tryz.underlying51
  have c1 := cell_blk h.own 1
  simp only [List.getElem?_toArray, List.getElem?_cons_succ, List.getElem?_cons_zero] at c1
  go_enter Tryz.func32, Tryz.ntmps32
  go_wp2_with fail
  go_ret
  exact ⟨rfl, rfl⟩
set_option maxRecDepth 100000 in
set_option maxHeartbeats 2000000 in
theorem none_nil (w : World) : Calls Tryz.prog 32 #[.pointer none] w fun e w' => e = .returned (.bool true) ∧ w' = w := by
  go_enter Tryz.func32, Tryz.ntmps32
  go_wp2_with fail
  go_ret
  exact ⟨rfl, rfl⟩
set_option maxRecDepth 100000 in
set_option maxHeartbeats 2000000 in
theorem none_odd {w : World} {p : Nat} (h : w.cell? ⟨p, 1, none⟩ = some (.map none)) : Calls Tryz.prog 32 #[.pointer (some ⟨p, 0, none⟩)] w fun e w' => e = .returned (.bool true) ∧ w' = w := by
  have hm := fun (w : World) (r : Option Nat) => run_eql_map_nil w 51 9 78 r Tryz.underlying51
  go_enter Tryz.func32, Tryz.ntmps32
  go_wp2_with fail
  go_ret
  exact ⟨rfl, rfl⟩
end Go.Proofs.YtegekaocbalndaaGreatDoor
