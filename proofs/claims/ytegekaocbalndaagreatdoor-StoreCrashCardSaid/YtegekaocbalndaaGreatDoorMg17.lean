/- several texts in one: disk.Clone., the chapter's example of disks (printed by gen_known19.py)., two rows of the same texts; no disk of a size that may not be. -/
import Derived.Test.YtegekaocbalndaaGreatDoorMg16
import Derived.Test.YtegekaocbalndaaGreatDoorMg9
import Derived.Test.YtegekaocbalndaaGreatDoorMv
import Derived.Test.YtegekaocbalndaaGreatDoorKg
section
set_option linter.unusedSimpArgs false
set_option linter.unusedVariables false
namespace Go.Proofs.YtegekaocbalndaaGreatDoor
open Go.RowKit

end Go.Proofs.YtegekaocbalndaaGreatDoor
end

section
set_option linter.unusedSimpArgs false
set_option linter.unusedVariables false
namespace Go.Proofs.YtegekaocbalndaaGreatDoor
open Go.RowKit

/-- a disk, all of it new since w0. -/
structure D19 (w0 w : World) (p m : Nat) (d : Dk) : Prop where
  disk : DiskAt w p m d
  below : Below w0.heap.size w0 w
  hp : w0.heap.size ≤ p
  hm : w0.heap.size ≤ m
theorem below_dw {w0 w w' : World} {p m : Nat} (h : Below w0.heap.size w0 w) (hb : Dw w w' p m) (hp : w0.heap.size ≤ p) (hm : w0.heap.size ≤ m) : Below w0.heap.size w0 w' :=
  ⟨hb.os.trans h.os, hb.tape.trans h.tape, hb.output.trans h.output, Nat.le_trans h.size hb.size, fun k hk => (hb.block k (Nat.lt_of_lt_of_le hk h.size) (by omega) (by omega)).trans (h.block k hk)⟩
theorem D19.after {w0 w w' : World} {p m : Nat} {d : Dk} (h : D19 w0 w p m d) (hb : Below w.heap.size w w') : D19 w0 w' p m d := ⟨h.disk.below hb, h.below.trans (hb.mono h.below.size), h.hp, h.hm⟩
theorem D19.step {w0 w w' : World} {p m : Nat} {d d2 : Dk} (h : D19 w0 w p m d) (h2 : DiskAt w' p m d2) (hd : Dw w w' p m) : D19 w0 w' p m d2 := ⟨h2, below_dw h.below hd h.hp h.hm, h.hp, h.hm⟩
theorem D19.of {w0 w w' : World} {p m : Nat} {d d2 : Dk} {r : Dk × Nat} {en : Ending} {n : Nat} {z : Int} (h : D19 w0 w p m d) (hP : DiskP w p m r en w') (hr : r = (d2, n)) (hz : (n : Int) = z) : en = .returned (.int .i64 z) ∧ D19 w0 w' p m d2 ∧ Dw w w' p m := by
  subst hr hz
  exact ⟨hP.1, h.step hP.2.1 hP.2.2, hP.2.2⟩
theorem zs_lit {w : World} {g : Nat} (l : List Int) {T : TypeId} (h : w.heap[g]? = some (.cells (l.map fun z => .int .i64 z).toArray T (0, 0))) : Zs w w.heap.size (some ⟨g, 0, none⟩) l := fun i hi => ⟨g, 0, rfl, lt_blk h, by
  rw [cell_blk h]
  simp [List.getD_eq_getElem?_getD, hi]⟩
theorem d19_new {w w' : World} {n p m : Nat} (hd : DiskAt w' p m (emptyDk n)) (hb : Below w.heap.size w w') (hp : w.heap.size ≤ p) (hm : w.heap.size ≤ m) : D19 w w' p m (emptyDk n) := ⟨hd, hb, hp, hm⟩
end Go.Proofs.YtegekaocbalndaaGreatDoor
end

section
set_option linter.unusedSimpArgs false
set_option linter.unusedVariables false
namespace Go.Proofs.YtegekaocbalndaaGreatDoor
open Go.RowKit

set_option maxRecDepth 100000 in
set_option maxHeartbeats 2000000 in
theorem same_texts (l : List Nm) (n : Nat) (hn : n = l.length) (hn2 : n ≤ 4611686018427387904) (A A' : Option Addr) (c c' B : Nat) (w : World) (hA : Rd w B A (l.map encStr)) (hA' : Rd w B A' (l.map encStr)) (hB : B ≤ w.heap.size) :
    Calls Tryz.prog 20 #[.slice A n c, .slice A' n c'] w fun e w' => e = .returned (.bool true) ∧ Below w.heap.size w w' := by
  have HA := Lib.hid hA; have HA' := Lib.hid hA'; have HN := Lib.hid hn
  clear hA hA' hn
  go_enter Tryz.func20, Tryz.ntmps20
  go_wp2_with fail
  go_loopw [5] (fun i wr => ∃ k : Nat, k ≤ n ∧ i = .int .i64 k ∧ Below w.heap.size w wr) (fun i _ => n - (intOf i).toNat)
  case atStart => exact ⟨0, by omega, rfl, Below.refl _ _⟩
  case round =>
    obtain ⟨k, hk, rfl, hb⟩ := hrel
    have Hb := Lib.hid hb
    clear hb
    by_cases hlt : k < n
    · have hkl : k < l.length := by rw [← HN.out]; exact hlt
      have hg : (l.map encStr)[k]? = some (.string (str l[k])) := by rw [List.getElem?_map, List.getElem?_eq_getElem hkl]; rfl
      obtain ⟨b, o, rfl, h0, h1⟩ := HA.out k _ hg
      obtain ⟨b', o', rfl, h0', h2⟩ := HA'.out k _ hg
      have T : Hid (∀ W, Below wr.heap.size wr W → W.cell? ⟨b, o + k, none⟩ = some (.string (str l[k])) ∧ W.cell? ⟨b', o' + k, none⟩ = some (.string (str l[k]))) := Lib.hid (fun W hW => by
        have hW := Hb.out.trans (hW.mono Hb.out.size)
        exact ⟨(hW.cell (p := ⟨b, o + k, none⟩) (Nat.lt_of_lt_of_le h0 hB)).trans h1, (hW.cell (p := ⟨b', o' + k, none⟩) (Nat.lt_of_lt_of_le h0' hB)).trans h2⟩)
      clear h1 h2 hg
      generalize str l[k] = z at *
      go_upto_region 6 with (fail)
      apply wp_region_relH (H := []) 9 [(Sum.inl _ : TT), (Sum.inl _ : TT), (Sum.inl _ : TT), (Sum.inl _ : TT), (Sum.inl _ : TT), (Sum.inl _ : TT), (Sum.inl _ : TT), (Sum.inl _ : TT), (Sum.inl _ : TT)] (by kernel_rfl) (by kernel_rfl) (fun _ _ _ _ _ h => h) rfl
      simp only [List.take_succ_cons, List.take_zero, List.drop_succ_cons, List.drop_zero]
      iterate 9 (apply rel_isS; (intro W hW hf; obtain ⟨hx1, hx2⟩ := T.out W hW; go_simp; first | exact ⟨StayS.refl _ _, rfl⟩ | rfl); simp only [Act.put, List.setIfInBounds_toArray, List.set_cons_succ, List.set_cons_zero])
      refine rel_endS ?_
      intro W hW hf
      try simp only [Act.put, List.setIfInBounds_toArray, List.set_cons_succ, List.set_cons_zero]
      refine wpList_nil ?_
      have HW := Lib.hid (Hb.out.trans (hW.mono Hb.out.size))
      clear hW hf
      go_wp2_with fail
      go_roundw
      case rel => exact ⟨k + 1, by omega, by go_num, HW.out⟩
      case measure => simp [intOf]; omega
    · obtain rfl : k = n := by omega
      go_wp2_with fail
      go_ret
      exact ⟨rfl, Hb.out⟩
set_option maxRecDepth 100000 in
set_option maxHeartbeats 2000000 in
theorem new_bad (w : World) : Calls Tryz.prog 6 #[.int .i64 0] w fun e w' => e = .returned (.tuple #[.pointer none, .int .i64 2]) ∧ w' = w := by
  go_enter Tryz.func6, Tryz.ntmps6
  go_wp2_with fail
  go_ret2
  exact ⟨rfl, rfl⟩
theorem rd_texts {w : World} {g : Nat} (l : List Nm) {T : TypeId} (h : w.heap[g]? = some (.cells (l.map encStr).toArray T (0, 0))) : Rd w w.heap.size (some ⟨g, 0, none⟩) (l.map encStr) := fun j u hu => ⟨g, 0, rfl, lt_blk h, by
  rw [cell_blk h, Nat.zero_add, List.getElem?_toArray]
  exact hu⟩
end Go.Proofs.YtegekaocbalndaaGreatDoor
end
