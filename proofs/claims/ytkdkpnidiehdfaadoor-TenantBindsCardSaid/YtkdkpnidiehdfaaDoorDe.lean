import Derived.Test.YtkdkpnidiehdfaaDoorDc
import Derived.Test.YtkdkpnidiehdfaaDoorDd
set_option linter.unusedSimpArgs false
set_option linter.unusedVariables false
namespace Go.Proofs.YtkdkpnidiehdfaaDoor
open Go.RowKit

theorem KMem.grown {w w' : World} {row : Option Nat} (h : KMem w) (hg : w.grownBy w' row) (hr : ∀ g, row = some g → 0 < g) : KMem w' := fun t ht => by
  have h0 : 0 < w.heap.size := by
    have := h t ht
    rcases Nat.lt_or_ge 0 w.heap.size with h' | h'
    · exact h'
    · simp [World.cell?, Array.getElem?_eq_none h'] at this
  exact (World.cell?_of_block (hg.block 0 h0 (fun e => by have := hr _ e.symm; omega))).trans (h t ht)
theorem KMem.pos {w : World} (h : KMem w) : 0 < w.heap.size := by
  have := h 0 (by omega)
  rcases Nat.lt_or_ge 0 w.heap.size with h' | h'
  · omega
  · simp [World.cell?, Array.getElem?_eq_none h'] at this

/-- a slice of bytes that lies outside block g. -/
def Bn (w : World) (g : Nat) (A : Option Addr) (l : List UInt8) : Prop :=
  ∀ j, j < l.length → ∃ b off, A = some ⟨b, off, none⟩ ∧ b ≠ g ∧ b < w.heap.size ∧ w.cell? ⟨b, off + j, none⟩ = some (.int .u8 (l.getD j 0).toNat)
theorem Bs.bn {w : World} {B g : Nat} {A : Option Addr} {l : List UInt8} (h : Bs w B A l) (hB : B ≤ g) (hg : g ≤ w.heap.size) : Bn w g A l := fun j hj => by
  obtain ⟨b, off, e, hb, hc⟩ := h j hj
  exact ⟨b, off, e, by omega, by omega, hc⟩
set_option maxRecDepth 100000 in
set_option maxHeartbeats 2000000 in
theorem write_any (h : HS) (hl : h.wait.length = 64) (l : List UInt8) (hn : h.n + l.length ≤ 1000000000000) (g : Nat) (A : Option Addr) (cap : Nat) (w : World)
    (hg : w.heap[g]? = some (.cells h.cells 35 (0, 0))) (hA : Bn w g A l) (hk : KMem w) (hkg : 0 < g) :
    Calls Tryd.prog 19 #[.pointer (some ⟨g, 0, none⟩), .slice A l.length cap] w fun e w' =>
      e = .returned (.int .i64 0) ∧ w'.heap[g]? = some (.cells (h.take_ l).cells 35 (0, 0)) ∧ w.grownBy w' (some g) := by
  have hm : w.cell? ⟨g, 73, none⟩ = some (.bool true) := by rw [cell_blk hg, hcells_made h hl]
  have hgs := lt_blk hg
  have Hg := Lib.hid hg
  have HA := Lib.hid hA
  have HK := Lib.hid hk
  clear hg hA hk
  go_enter Tryd.func19, Tryd.ntmps19
  go_wp2_with (go_at_call 58; refine (none_some _ _ _ hm).mono ?_; rintro e w' ⟨rfl, rfl⟩)
  clear hm
  go_loopw [11] (fun i wr => ∃ (t : Nat), t ≤ l.length ∧ i = .int .i64 t ∧ wr.heap[g]? = some (.cells (h.take_ (l.take t)).cells 35 (0, 0)) ∧ w.grownBy wr (some g)) (fun i _ => l.length - (intOf i).toNat)
  case atStart => exact ⟨0, by omega, rfl, Hg.out, World.grownBy.refl w _⟩
  case round =>
    obtain ⟨t, ht, rfl, hgt, hgr⟩ := hrel
    by_cases hlt : t < l.length
    · obtain ⟨b, off, rfl, hb, hbs, hc⟩ := HA.out t hlt
      have hc1 : wr.cell? ⟨b, off + t, none⟩ = some (.int .u8 (l.getD t 0).toNat) := (World.cell?_of_block (hgr.block b hbs (by intro e; injection e with e; exact hb e))).trans hc
      have Hs := Lib.hid (take_succ h l t hlt)
      have hnt : (h.take_ (l.take t)).n = h.n + t := by rw [take_n]; simp; omega
      have hwt : (h.take_ (l.take t)).wait.length = 64 := by rw [take_wait, hl]
      generalize h.take_ (l.take t) = ht' at hgt Hs hnt hwt
      obtain ⟨st, wait, n⟩ := ht'
      simp only at hnt hwt
      generalize l.getD t 0 = c at hc1 Hs
      clear hc
      have hn' : n ≤ 1000000000000 := by omega
      have hnn : n < 1000000000000 := by omega
      have HN := Lib.hid hnt
      clear hnt
      have Hgt := Lib.hid hgt
      clear hgt
      have k1 : wr.cell? ⟨g, 72, none⟩ = some (.int .i64 n) := by rw [cell_blk Hgt.out]; exact hcells_n _ hwt
      have k2 : wr.cell? ⟨g, 8 + n % 64, none⟩ = some (.int .u8 (wait.getD (n % 64) 0).toNat) := by rw [cell_blk Hgt.out]; exact hcells_wait _ hwt _ (by omega)
      have k3 : wr.frozen? ⟨g, 8 + n % 64, none⟩ = false := free_blk Hgt.out _
      have B1 := set_blk Hgt.out (8 + n % 64) (.int .u8 c.toNat)
      have k4 : (wr.setCell ⟨g, 8 + n % 64, none⟩ (.int .u8 c.toNat)).cell? ⟨g, 72, none⟩ = some (.int .i64 n) := by
        rw [cell_blk B1, Array.getElem?_setIfInBounds_ne (by omega)]; exact hcells_n _ hwt
      have k5 : (wr.setCell ⟨g, 8 + n % 64, none⟩ (.int .u8 c.toNat)).frozen? ⟨g, 72, none⟩ = false := free_blk B1 _
      have B2 := set_blk B1 72 (.int .i64 ((n : Int) + 1))
      rw [hcells_put _ hwt _ (by omega)] at B2
      have k6 : ((wr.setCell ⟨g, 8 + n % 64, none⟩ (.int .u8 c.toNat)).setCell ⟨g, 72, none⟩ (.int .i64 ((n : Int) + 1))).cell? ⟨g, 72, none⟩ = some (.int .i64 ((n : Int) + 1)) := by
        rw [cell_blk B2]; exact hcells_n _ (by simp [hwt])
      have HB2 := Lib.hid B2
      clear B1 B2
      have e1 : (n : Int).tmod 64 = (n : Int) % 64 := Int.tmod_eq_emod_of_nonneg (by omega)
      have e2 : ((n : Int) % 64).toNat = n % 64 := by omega
      have g1 : 0 ≤ (n : Int) % 64 := by omega
      have g2 : (n : Int) % 64 < 64 := by omega
      go_wp2
      refine region_tail 10 (by kernel_rfl) (by kernel_rfl) ?_
      simp only [List.take_succ_cons, List.take_zero, List.drop_succ_cons, List.drop_zero]
      repeat still_step
      refine wpStill_nil ?_
      clear e1 e2 g1 g2
      have hgr2 : w.grownBy ((wr.setCell ⟨g, 8 + n % 64, none⟩ (.int .u8 c.toNat)).setCell ⟨g, 72, none⟩ (.int .i64 ((n : Int) + 1))) (some g) := grown_setCell (grown_setCell hgr rfl _) rfl _
      by_cases hz : (n + 1) % 64 = 0
      · have hzi : (((n : Int) + 1) % 64 == 0) = true := by rw [beq_iff_eq]; omega
        have Hab : Hid ((HS.mk st wait n).absorb c = ⟨compress st (fun j => (wait.set (n % 64) c).getD j 0), wait.set (n % 64) c, n + 1⟩) := Lib.hid (by simp only [HS.absorb, if_pos hz])
        have hws : (wait.set (n % 64) c).length = 64 := by simp [hwt]
        generalize wait.set (n % 64) c = wait' at HB2 Hab hws
        have Hws := Lib.hid hws
        clear hws
        go_wp2
        refine region_tail 7 (by kernel_rfl) (by kernel_rfl) ?_
        simp only [List.take_succ_cons, List.take_zero, List.drop_succ_cons, List.drop_zero]
        repeat still_step
        refine wpStill_nil ?_
        go_wp2_with (go_at_call 59; refine (block_dig st (fun j => wait'.getD j 0) g _ 35 g 8 64 64 _ (KMem.grown HK.out (grown_drew (grown_drew hgr2)) (by intro g' e; injection e; omega)) HB2.out (fun i hi => hcells_st _ i hi) (fun j hj => (cell_blk HB2.out _).trans (hcells_wait _ Hws.out j hj)) (lt_blk HB2.out) (by omega)).mono ?_; rintro e w2 ⟨rfl, hw2, hgw2⟩; have Hw2 := Lib.hid hw2; have Hgw2 := Lib.hid hgw2; clear hw2 hgw2)
        go_roundw
        case rel => exact ⟨t + 1, by omega, by go_num, by rw [Hs.out, Hab.out, Hw2.out, hcells_block], grown_trans hgr2 (grown_trans (grown_drew (grown_drew (World.grownBy.refl _ _))) Hgw2.out)⟩
        case measure => simp [intOf]; omega
      · have hzi : (((n : Int) + 1) % 64 == 0) = false := by rw [beq_eq_false_iff_ne]; omega
        have Hab : Hid ((HS.mk st wait n).absorb c = ⟨st, wait.set (n % 64) c, n + 1⟩) := Lib.hid (by simp only [HS.absorb, if_neg hz])
        go_wp2
        go_roundw
        case rel => exact ⟨t + 1, by omega, by go_num, by rw [Hs.out, Hab.out]; exact HB2.out, grown_drew hgr2⟩
        case measure => simp [intOf]; omega
    · obtain rfl : t = l.length := by omega
      have Hgt := Lib.hid hgt
      clear hgt
      go_wp2
      go_ret
      exact ⟨rfl, by have := Hgt.out; rwa [List.take_length] at this, hgr⟩
end Go.Proofs.YtkdkpnidiehdfaaDoor
