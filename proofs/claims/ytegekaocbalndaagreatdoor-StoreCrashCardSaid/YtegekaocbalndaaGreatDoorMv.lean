/- disk.Read, Loose, Stop, Stopped, Writes, Size. -/
import Derived.Test.YtegekaocbalndaaGreatDoorMg9
import Derived.Test.YtegekaocbalndaaGreatDoorBy
set_option linter.unusedSimpArgs false
set_option linter.unusedVariables false
namespace Go.Proofs.YtegekaocbalndaaGreatDoor
open Go.RowKit

/-- what Read tells. -/
def Dk.read (d : Dk) (k : Nm) : List UInt8 × Nat := if d.has k = false then ([], 6) else ((d.file k).b, 0)
def ReadP (w : World) (r : List UInt8 × Nat) (e : Ending) (w' : World) : Prop := ∃ A cap, e = .returned (.tuple #[.slice A r.1.length cap, .int .i64 r.2]) ∧ Bs w' w'.heap.size A r.1 ∧ (A = none → r.1 = []) ∧ r.1.length ≤ cap ∧ Below w.heap.size w w'
set_option maxRecDepth 100000 in
set_option maxHeartbeats 2000000 in
theorem read_at {w : World} {p m : Nat} {d : Dk} (h : DiskAt w p m d) (k : Nm) (hk : k.length ≤ 9223372036854775807) :
    Calls Tryz.prog 23 #[.pointer (some ⟨p, 0, none⟩), .string (str k)] w (ReadP w (d.read k)) := by
  have H := Lib.hid h
  clear h
  go_enter Tryz.func23, Tryz.ntmps23
  go_wp2_with fail
  refine (none_at H.out).mono ?_
  rintro e w1 ⟨rfl, rfl⟩
  obtain ⟨A, cap, hv, hl1, hl2, hbs, hA0, hcap⟩ := look_file H.out k hk
  have HBS := Lib.hid hbs; have HA0 := Lib.hid hA0
  have x3 := cell_blk H.out.own 1
  simp only [List.getElem?_toArray, List.getElem?_cons_succ, List.getElem?_cons_zero] at x3
  have l1 := hl1 w1 rfl
  obtain ⟨_, _, _, _, _, _, hlen, _⟩ := hv
  clear hl1 hl2 hbs hA0
  cases hh : d.has k with
  | false =>
    rw [hh] at l1
    have HE : Hid (d.read k = ([], 6)) := Lib.hid (by unfold Dk.read; rw [if_pos hh])
    clear hh
    go_wp2_with fail
    go_ret2
    refine ⟨none, 0, by rw [HE.out]; rfl, by rw [HE.out]; exact Bs.nil _ _ _, fun _ => by rw [HE.out], by rw [HE.out]; exact Nat.le_refl _, below_alloc w1 _⟩
  | true =>
    rw [hh] at l1
    have HE : Hid (d.read k = ((d.file k).b, 0)) := Lib.hid (by unfold Dk.read; rw [if_neg (by rw [hh]; decide)])
    clear hh
    have hcl := fun o => clone_bytes (d.file k).b (by omega) A cap w1.heap.size (w1.alloc o) (HBS.out.below (below_alloc w1 o)) HA0.out (below_alloc w1 o).size
    have HCL := Lib.hid hcl
    clear hcl
    go_wp2_with fail
    refine (HCL.out _).mono ?_
    rintro e w2 ⟨A2, cap2, rfl, h2, h3, h4, h5⟩
    have H2 := Lib.hid h2; have H3 := Lib.hid h3; have H4 := Lib.hid h4
    have H5 := Lib.hid ((below_alloc w1 _).trans (h5.mono (below_alloc w1 _).size))
    clear h2 h3 h4 h5
    go_wp2_with fail
    go_ret2
    exact ⟨A2, cap2, by rw [HE.out]; rfl, by rw [HE.out]; exact H2.out, by rw [HE.out]; exact H3.out, by rw [HE.out]; exact H4.out, H5.out⟩
set_option maxRecDepth 100000 in
set_option maxHeartbeats 2000000 in
theorem loose_at {w : World} {p m : Nat} {d : Dk} (h : DiskAt w p m d) (k : Nm) (hk : k.length ≤ 9223372036854775807) :
    Calls Tryz.prog 61 #[.pointer (some ⟨p, 0, none⟩), .string (str k)] w fun e w' => e = .returned (.int .i64 (d.loose k : Nat)) ∧ Below w.heap.size w w' := by
  have H := Lib.hid h
  clear h
  go_enter Tryz.func61, Tryz.ntmps61
  go_wp2_with fail
  refine (none_at H.out).mono ?_
  rintro e w1 ⟨rfl, rfl⟩
  obtain ⟨A, cap, hv, hl1, hl2, hbs, hA0, hcap⟩ := look_file H.out k hk
  have x3 := cell_blk H.out.own 1
  simp only [List.getElem?_toArray, List.getElem?_cons_succ, List.getElem?_cons_zero] at x3
  have l1 := hl2 w1 rfl
  obtain ⟨_, _, _, _, _, hsafe, hlen, _⟩ := hv
  have hwr : IntKind.i64.wrap (((d.file k).b.length : Int) - ((d.file k).safe : Int)) = ((d.file k).b.length : Int) - ((d.file k).safe : Int) := wi64 _ (by omega) (by omega)
  have HE : Hid ((d.loose k : Int) = ((d.file k).b.length : Int) - ((d.file k).safe : Int)) := Lib.hid (by unfold Dk.loose; omega)
  clear hl1 hl2 hbs hA0
  go_wp2_with fail
  go_ret
  exact ⟨by rw [HE.out]; rfl, below_alloc w1 _⟩
set_option maxRecDepth 100000 in
set_option maxHeartbeats 2000000 in
theorem stop_at {w : World} {p m : Nat} {d : Dk} (h : DiskAt w p m d) (n : Int) (hn : n ≤ 9223372036854775807) :
    Calls Tryz.prog 8 #[.pointer (some ⟨p, 0, none⟩), .int .i64 n] w (DiskP w p m (d.stop n)) := by
  have H := Lib.hid h
  have HO := Lib.hid (h.ok.stop n hn)
  have x3 := cell_blk h.own 2
  simp only [List.getElem?_toArray, List.getElem?_cons_succ, List.getElem?_cons_zero] at x3
  have fz := fun i => free_blk h.own i
  have HN := Lib.hid (none_at h)
  clear h
  go_enter Tryz.func8, Tryz.ntmps8
  go_wp2_with fail
  refine HN.out.mono ?_
  rintro e w1 ⟨rfl, rfl⟩
  by_cases h0 : n < 0
  · have HE : Hid (d.stop n = (d, 2)) := Lib.hid (by unfold Dk.stop; rw [if_pos h0])
    go_wp2_with fail
    go_ret
    exact ⟨by rw [HE.out]; rfl, by rw [HE.out]; exact H.out, .refl _ _ _⟩
  · have HE : Hid (d.stop n = (⟨d.size, d.fs, if d.left = 0 then 0 else n, d.writes⟩, 0)) := Lib.hid (by unfold Dk.stop; rw [if_neg h0])
    by_cases hl : d.left = 0
    · have hl2 : (d.left != 0) = false := by rw [hl]; rfl
      have HL := Lib.hid hl
      clear hl
      go_wp2_with fail
      go_ret
      refine ⟨by rw [HE.out]; rfl, ?_, .refl _ _ _⟩
      rw [HE.out, if_pos HL.out]
      have := H.out
      rw [show d = ⟨d.size, d.fs, 0, d.writes⟩ by rw [← HL.out]] at this
      exact this
    · have hl2 : (d.left != 0) = true := by simpa using hl
      have HL := Lib.hid hl
      clear hl
      go_wp2_with fail
      go_ret
      have hr := H.out.raw
      have ho := HO.out
      rw [HE.out, if_neg HL.out] at ho ⊢
      refine ⟨rfl, ?_, ((Ow.refl w1 p).set 2 (.int .i64 n)).dw m⟩
      obtain ⟨vs, h1, h2⟩ := hr.files
      exact ⟨set_blk hr.own 2 (.int .i64 n), ho, vs, h1.at (Below.heap_setCell _ _ _ _ (by simpa using hr.ne)), h2.mono fun v f hv => hv.set x3 rfl⟩
set_option maxRecDepth 100000 in
set_option maxHeartbeats 2000000 in
theorem writes_at {w : World} {p m : Nat} {d : Dk} (h : DiskAt w p m d) : Calls Tryz.prog 39 #[.pointer (some ⟨p, 0, none⟩)] w fun e w' => e = .returned (.int .i64 d.writes) ∧ w' = w := by
  have x3 := cell_blk h.own 3
  simp only [List.getElem?_toArray, List.getElem?_cons_succ, List.getElem?_cons_zero] at x3
  have HN := Lib.hid (none_at h)
  clear h
  go_enter Tryz.func39, Tryz.ntmps39
  go_wp2_with fail
  refine HN.out.mono ?_
  rintro e w1 ⟨rfl, rfl⟩
  go_wp2_with fail
  go_ret
  exact ⟨rfl, rfl⟩
end Go.Proofs.YtegekaocbalndaaGreatDoor
