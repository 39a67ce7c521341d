/- race.Races. -/
import Derived.Test.YtkcpoebepiipoaaGb
import Derived.Test.YtkcpoebepiipoaaGc
set_option linter.unusedSimpArgs false
set_option linter.unusedVariables false
namespace Go.Proofs.Ytkcpoebepiipoaa
open Go.RowKit

theorem clk_of {w' : World} {v : Value} {l : List Ev} {B g n : Nat} {cur : Array Value} (ho : w'.ownsRow B 32 1 v l.length (rowVs g n l.length)) (hg : w'.heap[g]? = some (.cells cur 3 (0, 0))) (hc : ∀ i, i < l.length → ∀ t, t < n → cur[i * n + t]? = some (.int .i64 (clk l i t : Nat))) :
    ∃ A c, v = .slice A l.length c ∧ Clk w' w'.heap.size A l.length n (clk l) := by
  obtain ⟨A, c, rfl, hr, _, _⟩ := own_rd ho
  refine ⟨A, c, rfl, fun i hi => ?_⟩
  obtain ⟨b, o, e, hb, hc2⟩ := hr i _ (rowVs_get g n _ i hi)
  exact ⟨b, o, g, i * n, n, e, hb, lt_blk hg, hc2, fun t ht => by rw [cell_blk hg]; exact hc i hi t ht⟩
theorem clocks_at (l : List Ev) (m : Nat) (hm : m = l.length) (hl : m ≤ 4611686018427387904) (n : Nat) (hw : wrongE l n = 0) (A : Option Addr) (cap : Nat) (hcap : m ≤ cap) (B : Nat) (w : World) (hA : Evs w B A l) (hB : B ≤ w.heap.size) :
    Calls Try.prog 20 #[.slice A m cap, .int .i64 n] w fun r w' => ∃ A' c, r = .returned (.tuple #[.slice A' m c, .int .i64 0]) ∧ Clk w' w'.heap.size A' m n (clk l) ∧ Below w.heap.size w w' := by
  subst hm
  refine (clocks_any l hl n A cap hcap w (hA.more hB)).mono ?_
  rintro r w' ⟨hb, ⟨h, _⟩ | ⟨_, v, g, cur, rfl, h1, h2, h3, h4⟩⟩
  · exact absurd hw h
  · obtain ⟨A', c, rfl, h5⟩ := clk_of h1 h3 h4
    exact ⟨A', c, rfl, h5, hb⟩
theorem clocks_bad (l : List Ev) (m : Nat) (hm : m = l.length) (hl : m ≤ 4611686018427387904) (n : Int) (hw : wrongE l n ≠ 0) (A : Option Addr) (cap : Nat) (hcap : m ≤ cap) (B : Nat) (w : World) (hA : Evs w B A l) (hB : B ≤ w.heap.size) :
    Calls Try.prog 20 #[.slice A m cap, .int .i64 n] w fun r w' => r = .returned (.tuple #[.slice none 0 0, .int .i64 (wrongE l n : Nat)]) ∧ Below w.heap.size w w' := by
  subst hm
  refine (clocks_any l hl n A cap hcap w (hA.more hB)).mono ?_
  rintro r w' ⟨hb, ⟨h, rfl⟩ | ⟨h, _⟩⟩
  · exact ⟨rfl, hb⟩
  · exact absurd h hw
theorem wrongE_cases (l : List Ev) (n : Int) : wrongE l n = 0 ∨ wrongE l n = 2 ∨ wrongE l n = 3 := by
  unfold wrongE
  split
  · simp
  · split
    · simp
    · split <;> simp
set_option maxRecDepth 100000 in
set_option maxHeartbeats 4000000 in
theorem racef_is (l : List Ev) (m : Nat) (hm : m = l.length) (hl : m ≤ 1000000) (n : Nat) (hn : n ≤ 1000) (hgood : ∀ i, i < m → 0 ≤ (ev l i).t ∧ (ev l i).t < n) (A Ac : Option Addr) (cl cc : Nat) (w : World) (pc pl : Nat)
    (hA : Evs w w.heap.size A l) (hc : Clk w w.heap.size Ac m n (clk l)) (hpc : w.cell? ⟨pc, 0, none⟩ = some (.slice Ac m cc)) (hpl : w.cell? ⟨pl, 0, none⟩ = some (.slice A m cl)) :
    IsP 26 #[.pointer (some ⟨pc, 0, none⟩), .pointer (some ⟨pl, 0, none⟩)] (raceB l) m w := by
  intro W i j hW hi hj
  have HR := Lib.hid (fun W' (h : Below w.heap.size w W') => race_any l m hm hl n hn hgood i j hi hj A Ac cl cc w.heap.size w.heap.size W' (hA.below h) h.size (hc.below h) h.size)
  have h1 := (hW.cell (p := ⟨pc, 0, none⟩) (World.block_lt_of_cell? _ _ hpc)).trans hpc
  have h2 := (hW.cell (p := ⟨pl, 0, none⟩) (World.block_lt_of_cell? _ _ hpl)).trans hpl
  have HB := Lib.hid hW
  have g1 : (W.alloc (.cells #[.int .i64 i, .int .i64 j] 45)).cell? ⟨pc, 0, none⟩ = some (.slice Ac m cc) := by rw [World.cell?_alloc_lt _ _ _ (World.block_lt_of_cell? _ _ h1)]; exact h1
  have g2 : (W.alloc (.cells #[.int .i64 i, .int .i64 j] 45)).cell? ⟨pl, 0, none⟩ = some (.slice A m cl) := by rw [World.cell?_alloc_lt _ _ _ (World.block_lt_of_cell? _ _ h2)]; exact h2
  clear hA hc hgood hpc hpl hW hm h1 h2
  generalize raceB l i j = rr at *
  simp only [prv, List.append_toArray, List.cons_append, List.nil_append]
  go_enter Try.func26, Try.ntmps26
  go_wp2_with fail
  refine (HR.out _ (HB.out.trans ((below_alloc _ _).mono HB.out.size))).mono ?_
  rintro e w1 ⟨rfl, hb⟩
  have HB1 := Lib.hid ((below_alloc W (.cells #[.int .i64 i, .int .i64 j] 45)).trans (hb.mono (below_alloc _ _).size))
  clear hb
  go_wp2_with fail
  go_ret
  exact ⟨rfl, HB1.out⟩
def PairsP (w : World) (er : Nat) (ps : List (Nat × Nat)) (r : Ending) (w' : World) : Prop :=
  Below w.heap.size w w' ∧ ∃ v, r = .returned (.tuple #[v, .int .i64 er]) ∧ w'.ownsRow w.heap.size 45 2 v ps.length (prcells ps)
def racesL (l : List Ev) (n : Int) : List (Nat × Nat) := if wrongE l n = 0 then sifted (raceB l) (upTo l l.length) else []
set_option maxRecDepth 100000 in
set_option maxHeartbeats 4000000 in
theorem races_any (l : List Ev) (m : Nat) (hm : m = l.length) (hl : m ≤ 2000) (n : Int) (A : Option Addr) (cap : Nat) (hcap : m ≤ cap) (B : Nat) (w : World) (hA : Evs w B A l) (hB : B ≤ w.heap.size) :
    Calls Try.prog 8 #[.slice A m cap, .int .i64 n] w (PairsP w (wrongE l n) (racesL l n)) := by
  have HA := Lib.hid (hA.more hB)
  have HM := Lib.hid hm
  clear hA
  by_cases hw : wrongE l n = 0
  · obtain ⟨x1, x2, x3, x4⟩ := wrong_ok hw
    obtain ⟨nn, rfl⟩ := Int.eq_ofNat_of_zero_le (show 0 ≤ n by omega)
    have HC := Lib.hid (fun W (h : Below w.heap.size w W) => clocks_at l m hm (by omega) nn hw A cap hcap w.heap.size W (HA.out.below h) h.size)
    have HE : Hid (racesL l nn = sifted (raceB l) (upTo l l.length)) := Lib.hid (by unfold racesL; rw [if_pos hw])
    have HG := Lib.hid (fun i (hi : i < m) => good_at x4 (show i < l.length by rw [← hm]; exact hi))
    rw [hw]
    clear hw x4 hm
    go_enter Try.func8, Try.ntmps8
    go_wp2_with fail
    refine (HC.out _ (below_alloc _ _)).mono ?_
    rintro r w1 ⟨Ac, cc, rfl, hc, hb⟩
    have hpl := (hb.block w.heap.size (by simp)).trans (heap_alloc_new w (.cells #[.slice A m cap] 22))
    have hb0 : Below w.heap.size w w1 := (below_alloc _ _).trans (hb.mono (below_alloc _ _).size)
    have hlt : w.heap.size < w1.heap.size := lt_blk hpl
    have hp1 : (w1.alloc (.cells #[.slice Ac m cc] 46)).cell? ⟨w.heap.size, 0, none⟩ = some (.slice A m cap) := by rw [World.cell?_alloc_lt _ _ _ hlt, cell_blk (T := 22) hpl]; rfl
    have hp2 : (w1.alloc (.cells #[.slice Ac m cc] 46)).cell? ⟨w1.heap.size, 0, none⟩ = some (.slice Ac m cc) := by rw [cell_blk (T := 46) (heap_alloc_new _ _)]; rfl
    have hbx : Below w.heap.size w (w1.alloc (.cells #[.slice Ac m cc] 46)) := hb0.trans ((below_alloc _ _).mono hb0.size)
    have HI := Lib.hid (racef_is l m HM.out (by omega) nn (by omega) HG.out A Ac cap cc _ w1.heap.size w.heap.size ((HA.out.below hbx).more hbx.size) ((hc.below (below_alloc _ _)).more (below_alloc _ _).size) hp2 hp1)
    have HB := Lib.hid hbx
    have HP2 := Lib.hid hp2
    clear hpl hb0 hc hb hp2 hbx
    go_wp2_with fail
    refine (gathered_at_26 l m HM.out hl A cap _ (raceB l) _ ((HA.out.below HB.out).more HB.out.size) HI.out).mono ?_
    rintro e w2 ⟨v, rfl, hv, hb2⟩
    have HV := Lib.hid hv
    have HB2 := Lib.hid (HB.out.trans (hb2.mono HB.out.size))
    clear hb2 hv
    go_wp2_with fail
    go_ret2
    refine ⟨HB2.out, v, rfl, ?_⟩
    rw [HE.out, ← HM.out]
    exact owns_less HV.out HB.out.size
  · have HC := Lib.hid (fun W (h : Below w.heap.size w W) => clocks_bad l m hm (by omega) n hw A cap hcap w.heap.size W (HA.out.below h) h.size)
    have HE : Hid (racesL l n = []) := Lib.hid (by unfold racesL; rw [if_neg hw])
    have hb0 : Below w.heap.size w (w.alloc (.cells #[.slice A m cap] 22)) := below_alloc _ _
    have hx : ((wrongE l n : Nat) : Int) = 0 → False := by omega
    have hx2 : decide (((wrongE l n : Nat) : Int) = 0) = false := by rw [decide_eq_false_iff_not]; exact hx
    have hx3 : (((wrongE l n : Nat) : Int) == 0) = false := by rw [beq_eq_false_iff_ne]; exact hx
    clear hw hm
    generalize wrongE l n = er at *
    go_enter Try.func8, Try.ntmps8
    go_wp2_with fail
    refine (HC.out _ (below_alloc _ _)).mono ?_
    rintro r w1 ⟨rfl, hb⟩
    have HB := Lib.hid (hb0.trans (hb.mono hb0.size))
    clear hb hb0 HC
    go_wp2_with fail
    go_ret2
    exact ⟨HB.out.trans ((below_alloc _ _).mono HB.out.size), _, rfl, by rw [HE.out]; exact World.ownsRow_nil _ _ _ _⟩
end Go.Proofs.Ytkcpoebepiipoaa
