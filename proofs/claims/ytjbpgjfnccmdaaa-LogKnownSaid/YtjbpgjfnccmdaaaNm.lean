/- the laws' calls on a disk: plays. -/
import Derived.Test.YtjbpgjfnccmdaaaNl
set_option linter.unusedSimpArgs false
set_option linter.unusedVariables false
namespace Go.Proofs.Ytjbpgjfnccmdaaa
open Go.RowKit

theorem Dw.low {w w' : World} {p m B : Nat} (h : Dw w w' p m) (hp : B ≤ p) (hm : B ≤ m) (hB : B ≤ w.heap.size) : Below B w w' :=
  ⟨h.os, h.tape, h.output, h.size, fun k hk => h.block k (by omega) (by omega) (by omega)⟩
theorem DiskAt.key_len {w : World} {p m : Nat} {d : Dk} (h : DiskAt w p m d) : ∀ q ∈ d.fs, q.1.length ≤ 9223372036854775807 := by
  obtain ⟨vs, hm, ha⟩ := h.files
  obtain ⟨es, he, hk⟩ := World.ownsMap.keysOf hm
  have hv : ∀ q ∈ vs, q.1.length ≤ 9223372036854775807 := fun q hq => by
    injection he with he
    have h1 : (Lit.string q.1, DataW.held q.2) ∈ es := by rw [← he]; unfold kd; exact List.mem_map.2 ⟨q, hq, rfl⟩
    obtain ⟨v, hv⟩ := hk _ h1
    obtain ⟨x, _, hx, hl⟩ := Maps.keyOf_str Try.underlying9 hv
    injection hx with hx
    rw [hx]
    exact hl
  have hn := ha.names_eq
  intro q hq
  have h1 : q.1 ∈ names d.fs := List.mem_map.2 ⟨q, hq, rfl⟩
  rw [← hn] at h1
  obtain ⟨r, hr, he⟩ := List.mem_map.1 h1
  rw [← he]
  exact hv r hr
def PlayP (w : World) (p m : Nat) (d : Dk) (l : List Ac) (e : Ending) (w' : World) : Prop :=
  ((e = .returned (.bool true) ∧ l.all okA = true ∧ DiskAt w' p m (d.plays l)) ∨ (e = .returned (.bool false) ∧ l.all okA = false)) ∧ Dw w w' p m
set_option maxRecDepth 100000 in
set_option maxHeartbeats 8000000 in
theorem plays_at {w : World} {p m : Nat} {d : Dk} (h : DiskAt w p m d) (l : List Ac) (n : Nat) (hn : n = l.length) (hn2 : n ≤ 1000000) (hwr : d.writes ≤ 1000000000) (A : Option Addr) (cap B : Nat) (hA : Acs w B A l) (hW : AcW l) (hB : B ≤ w.heap.size) (hp : B ≤ p) (hm : B ≤ m) :
    Calls Try.prog 36 #[.pointer (some ⟨p, 0, none⟩), .slice A n cap] w (PlayP w p m d l) := by
  have H := Lib.hid h; have HA := Lib.hid hA; have HW := Lib.hid hW; have HN := Lib.hid hn
  clear h hA hW hn
  go_enter Try.func36, Try.ntmps36
  go_wp2_with fail
  go_loopw [5, 6, 33, 41, 49, 55, 63] (fun iv _ _ _ _ _ _ wr => ∃ k : Nat, k ≤ n ∧ iv = .int .i64 k ∧ DiskAt wr p m (d.plays (l.take k)) ∧ (l.take k).all okA = true ∧ Dw w wr p m) (fun iv _ _ _ _ _ _ _ => n - (intOf iv).toNat)
  case atStart => exact ⟨0, Nat.zero_le _, rfl, H.out, rfl, .refl _ _ _⟩
  case round =>
    obtain ⟨k, hk, rfl, hd, hall, hdw⟩ := hrel
    by_cases hlt : k < n
    · have hkl : k < l.length := by rw [← HN.out]; exact hlt
      have hlow := hdw.low hp hm hB
      obtain ⟨b, o, Ab, cb, Tb, tl, tc, rfl, hbB, c0, c1, c2, c3, c4, c5, hbs, hb0⟩ := (HA.out.below hlow) k hkl
      have hw := HW.out (l.getD k .zero) (by rw [List.getD_eq_getElem?_getD, List.getElem?_eq_getElem hkl]; exact List.getElem_mem hkl)
      have hwk : (d.plays (l.take k)).writes ≤ d.writes + k := by have := plays_writes (l.take k) d; rw [List.length_take] at this; omega
      have HS := Lib.hid (plays_step d l k hkl)
      have HALL2 : Hid (okA (l.getD k .zero) = true → (l.take (k + 1)).all okA = true) := Lib.hid (fun h => by
        rw [List.take_add_one, List.getElem?_eq_getElem hkl, List.all_append, hall]
        rw [List.getD_eq_getElem?_getD, List.getElem?_eq_getElem hkl] at h
        simpa using h)
      have HBAD : Hid (okA (l.getD k .zero) = false → l.all okA = false) := Lib.hid (fun h => by
        rw [List.all_eq_false]
        exact ⟨l.getD k .zero, by rw [List.getD_eq_getElem?_getD, List.getElem?_eq_getElem hkl]; exact List.getElem_mem hkl, by rw [h]; decide⟩)
      have HD := Lib.hid hd; have HDW := Lib.hid hdw; have HBS := Lib.hid hbs; have HB0 := Lib.hid hb0
      clear hd hall hdw hbs hb0 hlow
      generalize d.plays (l.take k) = dk at *
      generalize l.getD k .zero = a at *
      obtain ⟨kd, nm, too, nn, bb⟩ := a
      simp only [] at c0 c1 c2 c3 c4 hw
      obtain ⟨hw1, hw2, hw3, hw4⟩ := hw
      have hbl := below_alloc wr (.cells #[.int .i64 kd, .string (str nm), .string (str too), .int .i64 nn, .slice Ab bb.length cb, .slice Tb tl tc] 98)
      have H2 := Lib.hid (HD.out.below hbl)
      have HD2 := Lib.hid (HDW.out.trans (.of_below (p := p) (m := m) hbl))
      have HBS2 := Lib.hid ((HBS.out.below (hbl.mono (Nat.le_trans hB HDW.out.size))).more (Nat.le_trans (Nat.le_trans hB HDW.out.size) hbl.size))
      clear hbl HBS HD HDW
      by_cases hbig : 400 < bb.length
      · have hbig2 : (400 : Int) < (bb.length : Int) := by omega
        have HF : Hid (l.all okA = false) := Lib.hid (HBAD.out (by unfold okA; simp only [decide_eq_false_iff_not]; omega))
        go_wp2_with fail
        go_ret
        exact ⟨.inr ⟨rfl, HF.out⟩, HD2.out⟩
      have hbig2 : ¬ (400 : Int) < (bb.length : Int) := by omega
      by_cases hk0 : kd < 0
      · have HF : Hid (l.all okA = false) := Lib.hid (HBAD.out (by unfold okA; simp only [decide_eq_false_iff_not]; omega))
        go_wp2_with fail
        go_ret
        exact ⟨.inr ⟨rfl, HF.out⟩, HD2.out⟩
      by_cases hk4 : 4 < kd
      · have HF : Hid (l.all okA = false) := Lib.hid (HBAD.out (by unfold okA; simp only [decide_eq_false_iff_not]; omega))
        go_wp2_with fail
        go_ret
        exact ⟨.inr ⟨rfl, HF.out⟩, HD2.out⟩
      have hok : okA ⟨kd, nm, too, nn, bb⟩ = true := by unfold okA; simp only [decide_eq_true_eq]; omega
      have HALL3 := Lib.hid (HALL2.out hok)
      have HLB : Hid (bb.length = bb.length) := Lib.hid rfl
      have hcase : kd = 0 ∨ kd = 1 ∨ kd = 2 ∨ kd = 3 ∨ kd = 4 := by omega
      clear HALL2 hk0 hk4 hok hbig
      rcases hcase with rfl | rfl | rfl | rfl | rfl
      · generalize hlb : bb.length = lb at *
        have HLB := Lib.hid hlb
        clear hlb
        have HQ := Lib.hid (append_at H2.out (by omega) nm hw1 bb lb HLB.out.symm (by omega) Ab cb HBS2.out HB0.out)
        go_wp2_with fail
        refine HQ.out.mono ?_
        rintro e w3 ⟨rfl, h3, h4⟩
        have H3 := Lib.hid h3; have HD3 := Lib.hid (HD2.out.trans h4)
        clear h3 h4 HQ
        go_wp2_with fail
        go_roundw
        case rel => exact ⟨k + 1, by omega, by go_num, by rw [HS.out]; exact H3.out, HALL3.out, HD3.out⟩
        case measure => simp [intOf]; omega
      · have HQ := Lib.hid (cut_at H2.out (by omega) nm hw1 nn hw4)
        go_wp2_with fail
        refine HQ.out.mono ?_
        rintro e w3 ⟨rfl, h3, h4⟩
        have H3 := Lib.hid h3; have HD3 := Lib.hid (HD2.out.trans h4)
        clear h3 h4 HQ
        go_wp2_with fail
        go_roundw
        case rel => exact ⟨k + 1, by omega, by go_num, by rw [HS.out]; exact H3.out, HALL3.out, HD3.out⟩
        case measure => simp [intOf]; omega
      · have HQ := Lib.hid (sync_at H2.out (by omega) nm hw1)
        go_wp2_with fail
        refine HQ.out.mono ?_
        rintro e w3 ⟨rfl, h3, h4⟩
        have H3 := Lib.hid h3; have HD3 := Lib.hid (HD2.out.trans h4)
        clear h3 h4 HQ
        go_wp2_with fail
        go_roundw
        case rel => exact ⟨k + 1, by omega, by go_num, by rw [HS.out]; exact H3.out, HALL3.out, HD3.out⟩
        case measure => simp [intOf]; omega
      · have HQ := Lib.hid (rename_at H2.out (by omega) nm hw1 too hw2)
        go_wp2_with fail
        refine HQ.out.mono ?_
        rintro e w3 ⟨rfl, h3, h4⟩
        have H3 := Lib.hid h3; have HD3 := Lib.hid (HD2.out.trans h4)
        clear h3 h4 HQ
        go_wp2_with fail
        go_roundw
        case rel => exact ⟨k + 1, by omega, by go_num, by rw [HS.out]; exact H3.out, HALL3.out, HD3.out⟩
        case measure => simp [intOf]; omega
      · have HQ := Lib.hid (remove_at H2.out (by omega) nm hw1)
        go_wp2_with fail
        refine HQ.out.mono ?_
        rintro e w3 ⟨rfl, h3, h4⟩
        have H3 := Lib.hid h3; have HD3 := Lib.hid (HD2.out.trans h4)
        clear h3 h4 HQ
        go_wp2_with fail
        go_roundw
        case rel => exact ⟨k + 1, by omega, by go_num, by rw [HS.out]; exact H3.out, HALL3.out, HD3.out⟩
        case measure => simp [intOf]; omega
    · obtain rfl : k = n := by omega
      rw [HN.out, List.take_length] at hd hall
      have HD := Lib.hid hd; have HDW := Lib.hid hdw; have HAL := Lib.hid hall
      clear hd hdw hall
      go_wp2_with fail
      go_ret
      exact ⟨.inl ⟨rfl, HAL.out, HD.out⟩, HDW.out⟩
end Go.Proofs.Ytjbpgjfnccmdaaa
