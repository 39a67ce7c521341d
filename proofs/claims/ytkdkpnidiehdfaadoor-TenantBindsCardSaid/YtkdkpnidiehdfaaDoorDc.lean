import Derived.Test.YtkdkpnidiehdfaaDoorDa
import Derived.Test.YtkdkpnidiehdfaaDoorSha
set_option linter.unusedSimpArgs false
set_option linter.unusedVariables false
namespace Go.Proofs.YtkdkpnidiehdfaaDoor
open Go.RowKit
attribute [local go_sem] wrap_u32_mod w32_add w32_xor w32_and w32_or w32_div8 w32_div1024 w32_not w32_not' signed_u32 w8_conv w32_mul24 w32_mul16 w32_mul8

/-- the table of the rounds stands in its variable. -/
def KMem (w : World) : Prop := ∀ t, t < 64 → w.cell? ⟨0, t, none⟩ = some (.int .u32 (kTab.getD t 0).toNat)

set_option maxRecDepth 100000 in
set_option maxHeartbeats 4000000 in
theorem block_dig (s : St) (m : Nat → UInt8) (g : Nat) (cs : Array Value) (T : TypeId) (b off len cap : Nat) (w : World) (hk : KMem w) (hg : w.heap[g]? = some (.cells cs T (0, 0)))
   (hcs : ∀ i, i < 8 → cs[i]? = some (.int .u32 (s.at i).toNat)) (hb : ∀ j, j < 64 → w.cell? ⟨b, off + j, none⟩ = some (.int .u8 (m j).toNat)) (hblt : b < w.heap.size) (hl : 64 ≤ len) :
    Calls Tryd.prog 59 #[.pointer (some ⟨g, 0, none⟩), .slice (some ⟨b, off, none⟩) len cap] w fun e w' =>
      e = .returned (.tuple #[]) ∧ w'.heap[g]? = some (.cells (wrW cs (compress s m).at 8) T (0, 0)) ∧ w.grownBy w' (some g) := by
  have Hb := Lib.hid hb
  have HK := Lib.hid hk
  have Hg := Lib.hid hg
  have Hcs := Lib.hid hcs
  have hgs : g < w.heap.size := lt_blk hg
  clear hb hk hg hcs
  go_enter Tryd.func59, Tryd.ntmps59
  go_wp2
  go_loopw [15] (fun i wr => ∃ (t n : Nat), t ≤ 64 ∧ i = .int .i64 t ∧ wr = (w.alloc (.cells (wcells (wst m t)) 101)).drewN n) (fun i _ => 64 - (intOf i).toNat)
  case atStart => exact ⟨0, 0, by omega, rfl, rfl⟩
  case round =>
    obtain ⟨t, n, ht, rfl, rfl⟩ := hrel
    by_cases hlt : t < 64
    · have hd64 : decide ((t : Int) < 64) = true := by simp; omega
      have hti : (t : Int) < 64 := by omega
      have hlw := wst_length m t ht
      have c0 : (wcells (wst m t))[t]? = some (.int .u32 0) := by rw [wcells_get _ _ (by omega), wst_zero m t hlt]; rfl
      by_cases h16 : t < 16
      · have hd16 : decide ((t : Int) < 16) = true := by simp; omega
        have Hx : Hid (be (m (4 * t)) (m (4 * t + 1)) (m (4 * t + 2)) (m (4 * t + 3)) = nextW m (sched m t)) := Lib.hid (by rw [nextW, sched_length, if_pos h16])
        have b0 : ∀ o, (w.alloc o).cell? ⟨b, off + 4 * t, none⟩ = some (.int .u8 (m (4 * t)).toNat) := by intro o; rw [World.cell?_alloc_lt _ _ _ hblt, Hb.out _ (by omega)]
        have b1 : ∀ o, (w.alloc o).cell? ⟨b, off + (4 * t + 1), none⟩ = some (.int .u8 (m (4 * t + 1)).toNat) := by intro o; rw [World.cell?_alloc_lt _ _ _ hblt, Hb.out _ (by omega)]
        have b2 : ∀ o, (w.alloc o).cell? ⟨b, off + (4 * t + 2), none⟩ = some (.int .u8 (m (4 * t + 2)).toNat) := by intro o; rw [World.cell?_alloc_lt _ _ _ hblt, Hb.out _ (by omega)]
        have b3 : ∀ o, (w.alloc o).cell? ⟨b, off + (4 * t + 3), none⟩ = some (.int .u8 (m (4 * t + 3)).toNat) := by intro o; rw [World.cell?_alloc_lt _ _ _ hblt, Hb.out _ (by omega)]
        generalize m (4 * t) = m0 at b0 Hx
        generalize m (4 * t + 1) = m1 at b1 Hx
        generalize m (4 * t + 2) = m2 at b2 Hx
        generalize m (4 * t + 3) = m3 at b3 Hx
        have e0 : IntKind.i64.wrap (4 * (t : Int)) = 4 * t := wi64 _ (by omega) (by omega)
        have e1 : IntKind.i64.wrap (4 * (t : Int) + 1) = 4 * t + 1 := wi64 _ (by omega) (by omega)
        have e2 : IntKind.i64.wrap (4 * (t : Int) + 2) = 4 * t + 2 := wi64 _ (by omega) (by omega)
        have e3 : IntKind.i64.wrap (4 * (t : Int) + 3) = 4 * t + 3 := wi64 _ (by omega) (by omega)
        have t0 : (4 * (t : Int)).toNat = 4 * t := by omega
        have t1 : (4 * (t : Int) + 1).toNat = 4 * t + 1 := by omega
        have t2 : (4 * (t : Int) + 2).toNat = 4 * t + 2 := by omega
        have t3 : (4 * (t : Int) + 3).toNat = 4 * t + 3 := by omega
        have g0 : 0 ≤ 4 * (t : Int) := by omega
        have g1 : 0 ≤ 4 * (t : Int) + 1 := by omega
        have g2 : 0 ≤ 4 * (t : Int) + 2 := by omega
        have g3 : 0 ≤ 4 * (t : Int) + 3 := by omega
        have l0 : 4 * (t : Int) < len := by omega
        have l1 : 4 * (t : Int) + 1 < len := by omega
        have l2 : 4 * (t : Int) + 2 < len := by omega
        have l3 : 4 * (t : Int) + 3 < len := by omega
        go_wp2
        refine region_tail 35 (by kernel_rfl) (by kernel_rfl) ?_
        simp only [List.take_succ_cons, List.take_zero, List.drop_succ_cons, List.drop_zero]
        repeat still_step
        refine wpStill_nil ?_
        clear e0 e1 e2 e3 t0 t1 t2 t3 g0 g1 g2 g3 l0 l1 l2 l3
        go_wp2
        go_roundw
        case rel => exact ⟨t + 1, _, by omega, by go_num, by rw [wcells_set, be_walk, Hx.out, wst_set m t hlt]⟩
        case measure => simp [intOf]; omega
      · have hd16 : decide ((t : Int) < 16) = false := by simp; omega
        have h1 : (wst m t).getD (t - 15) 0 = (sched m t).getD (t - 15) 0 := wst_getD m t _ (by omega)
        have h2 : (wst m t).getD (t - 2) 0 = (sched m t).getD (t - 2) 0 := wst_getD m t _ (by omega)
        have h3 : (wst m t).getD (t - 7) 0 = (sched m t).getD (t - 7) 0 := wst_getD m t _ (by omega)
        have h4 : (wst m t).getD (t - 16) 0 = (sched m t).getD (t - 16) 0 := wst_getD m t _ (by omega)
        have c1 : (wcells (wst m t))[t - 15]? = some (.int .u32 ((sched m t).getD (t - 15) 0).toNat) := by rw [wcells_get _ _ (by omega), h1]
        have c2 : (wcells (wst m t))[t - 2]? = some (.int .u32 ((sched m t).getD (t - 2) 0).toNat) := by rw [wcells_get _ _ (by omega), h2]
        have c3 : (wcells (wst m t))[t - 7]? = some (.int .u32 ((sched m t).getD (t - 7) 0).toNat) := by rw [wcells_get _ _ (by omega), h3]
        have c4 : (wcells (wst m t))[t - 16]? = some (.int .u32 ((sched m t).getD (t - 16) 0).toNat) := by rw [wcells_get _ _ (by omega), h4]
        clear h1 h2 h3 h4
        generalize hx15 : (sched m t).getD (t - 15) 0 = x15 at c1
        generalize hx2 : (sched m t).getD (t - 2) 0 = x2 at c2
        generalize hx7 : (sched m t).getD (t - 7) 0 = x7 at c3
        generalize hx16 : (sched m t).getD (t - 16) 0 = x16 at c4
        have Hx : Hid (s1 x2 + x7 + s0 x15 + x16 = nextW m (sched m t)) := Lib.hid (by
          rw [nextW, sched_length, if_neg h16, hx15, hx2, hx7, hx16])
        clear hx15 hx2 hx7 hx16 hlw
        have t1 : ((t : Int) - 15).toNat = t - 15 := by omega
        have t2 : ((t : Int) - 2).toNat = t - 2 := by omega
        have t3 : ((t : Int) - 7).toNat = t - 7 := by omega
        have t4 : ((t : Int) - 16).toNat = t - 16 := by omega
        have e1 : IntKind.i64.wrap ((t : Int) - 15) = t - 15 := wi64 _ (by omega) (by omega)
        have e2 : IntKind.i64.wrap ((t : Int) - 2) = t - 2 := wi64 _ (by omega) (by omega)
        have e3 : IntKind.i64.wrap ((t : Int) - 7) = t - 7 := wi64 _ (by omega) (by omega)
        have e4 : IntKind.i64.wrap ((t : Int) - 16) = t - 16 := wi64 _ (by omega) (by omega)
        have g1 : 15 ≤ (t : Int) := by omega
        have g1' : (t : Int) - 15 < 64 := by omega
        have g2 : 2 ≤ (t : Int) := by omega
        have g2' : (t : Int) - 2 < 64 := by omega
        have g3 : 7 ≤ (t : Int) := by omega
        have g3' : (t : Int) - 7 < 64 := by omega
        have g4 : 16 ≤ (t : Int) := by omega
        have g4' : (t : Int) - 16 < 64 := by omega
        go_wp2
        go_quiet (fail)
        go_wp2
        refine region_tail 29 (by kernel_rfl) (by kernel_rfl) ?_
        simp only [List.take_succ_cons, List.take_zero, List.drop_succ_cons, List.drop_zero]
        repeat (first | still_step | (still_call (still_of (dig_right _ _ _ (by omega) (by omega)))))
        refine wpStill_nil ?_
        clear e1 e2 e3 e4
        go_wp2
        go_roundw
        case rel => exact ⟨t + 1, _, by omega, by go_num, by
          rw [wcells_set, show add32 (add32 (add32 (xor32 (xor32 (rotr x2 17) (rotr x2 19)) (shr32 x2 10)) x7) (xor32 (xor32 (rotr x15 7) (rotr x15 18)) (shr32 x15 3))) x16 = nextW m (sched m t) from Hx.out, wst_set m t hlt]⟩
        case measure => simp [intOf]; omega
    · obtain rfl : t = 64 := by omega
      rw [show ((64 : Nat) : Int) = 64 from rfl]
      have HS : Hid (wst m 64 = sched m 64) := Lib.hid (by simp [wst])
      generalize hws : wst m 64 = ws
      rw [hws] at HS
      have hwl : ws.length = 64 := by rw [← hws]; exact wst_length m 64 (by omega)
      have Hwl := Lib.hid hwl
      clear hws hwl hblt Hb
      have r0 : ∀ o, (w.alloc o).cell? ⟨g, 0, none⟩ = some (.int .u32 s.a.toNat) := by intro o; rw [World.cell?_alloc_lt _ _ _ hgs, cell_blk Hg.out, Hcs.out _ (by omega)]; rfl
      have r1 : ∀ o, (w.alloc o).cell? ⟨g, 1, none⟩ = some (.int .u32 s.b.toNat) := by intro o; rw [World.cell?_alloc_lt _ _ _ hgs, cell_blk Hg.out, Hcs.out _ (by omega)]; rfl
      have r2 : ∀ o, (w.alloc o).cell? ⟨g, 2, none⟩ = some (.int .u32 s.c.toNat) := by intro o; rw [World.cell?_alloc_lt _ _ _ hgs, cell_blk Hg.out, Hcs.out _ (by omega)]; rfl
      have r3 : ∀ o, (w.alloc o).cell? ⟨g, 3, none⟩ = some (.int .u32 s.d.toNat) := by intro o; rw [World.cell?_alloc_lt _ _ _ hgs, cell_blk Hg.out, Hcs.out _ (by omega)]; rfl
      have r4 : ∀ o, (w.alloc o).cell? ⟨g, 4, none⟩ = some (.int .u32 s.e.toNat) := by intro o; rw [World.cell?_alloc_lt _ _ _ hgs, cell_blk Hg.out, Hcs.out _ (by omega)]; rfl
      have r5 : ∀ o, (w.alloc o).cell? ⟨g, 5, none⟩ = some (.int .u32 s.f.toNat) := by intro o; rw [World.cell?_alloc_lt _ _ _ hgs, cell_blk Hg.out, Hcs.out _ (by omega)]; rfl
      have r6 : ∀ o, (w.alloc o).cell? ⟨g, 6, none⟩ = some (.int .u32 s.g.toNat) := by intro o; rw [World.cell?_alloc_lt _ _ _ hgs, cell_blk Hg.out, Hcs.out _ (by omega)]; rfl
      have r7 : ∀ o, (w.alloc o).cell? ⟨g, 7, none⟩ = some (.int .u32 s.h.toNat) := by intro o; rw [World.cell?_alloc_lt _ _ _ hgs, cell_blk Hg.out, Hcs.out _ (by omega)]; rfl
      go_wp2
      clear r0 r1 r2 r3 r4 r5 r6 r7
      go_loopw [96] (fun i wr => ∃ (t n : Nat) (x : St), t ≤ 64 ∧ i = .int .i64 t ∧ x = rounds_ s ws t ∧ wr = ((w.alloc (.cells (wcells ws) 101)).alloc (.cells #[.int .u32 x.a.toNat, .int .u32 x.b.toNat, .int .u32 x.c.toNat, .int .u32 x.d.toNat, .int .u32 x.e.toNat, .int .u32 x.f.toNat, .int .u32 x.g.toNat, .int .u32 x.h.toNat] 32)).drewN n) (fun i _ => 64 - (intOf i).toNat)
      case atStart => exact ⟨0, _, s, by omega, rfl, rfl, rfl⟩
      case round =>
        obtain ⟨t, n, x, ht, rfl, hx, rfl⟩ := hrel
        have Hx := Lib.hid hx
        clear hx
        by_cases hlt : t < 64
        · have hd64 : decide ((t : Int) < 64) = true := by simp; omega
          have hti : (t : Int) < 64 := by omega
          have ck : ∀ o o', ((w.alloc o).alloc o').cell? ⟨0, t, none⟩ = some (.int .u32 (kTab.getD t 0).toNat) := by
            intro o o'; rw [World.cell?_alloc_lt _ _ _ (by simp), World.cell?_alloc_lt _ _ _ (by simp; omega), HK.out t hlt]
          have cw : (wcells ws)[t]? = some (.int .u32 (ws.getD t 0).toNat) := by rw [wcells_get _ _ (by rw [Hwl.out]; exact hlt)]
          generalize hk : kTab.getD t 0 = k at ck
          generalize hw : ws.getD t 0 = wt at cw
          have HKt := Lib.hid hk
          have HWT := Lib.hid hw
          clear hk hw
          go_wp2
          go_quiet (fail)
          go_wp2
          go_quiet ((go_at_call 73; exact quiet_add_left (dig_right _ _ _ (by omega) (by omega))))
          go_wp2
          go_quiet ((go_at_call 73; exact quiet_add_left (dig_right _ _ _ (by omega) (by omega))))
          go_wp2
          go_roundw
          case rel => exact ⟨t + 1, _, rnd x k wt, by omega, by go_num, by rw [rounds_, ← Hx.out, HKt.out, HWT.out], rfl⟩
          case measure => simp [intOf]; omega
        · obtain rfl : t = 64 := by omega
          rw [show ((64 : Nat) : Int) = 64 from rfl]
          have hxc : #[Value.int .u32 (x.a.toNat : Int), .int .u32 x.b.toNat, .int .u32 x.c.toNat, .int .u32 x.d.toNat, .int .u32 x.e.toNat, .int .u32 x.f.toNat, .int .u32 x.g.toNat, .int .u32 x.h.toNat] = wcells x.list := rfl
          rw [hxc]
          clear hxc
          go_wp2
          go_loopw [178] (fun v wr => ∃ (i n : Nat) (wg : World), i ≤ 8 ∧ v = .int .i64 i ∧ wg.heap[g]? = some (.cells (wrW cs (s.plus x).at i) T (0, 0)) ∧ w.grownBy wg (some g) ∧ wg.heap.size = w.heap.size ∧ wr = ((wg.alloc (.cells (wcells ws) 101)).alloc (.cells (wcells x.list) 32)).drewN n) (fun i _ => 8 - (intOf i).toNat)
          case atStart => exact ⟨0, _, w, by omega, rfl, Hg.out, World.grownBy.refl w _, rfl, rfl⟩
          case round =>
            obtain ⟨i, n, wg, hi, rfl, hgi, hgr, hz, rfl⟩ := hrel
            have Hgi := Lib.hid hgi
            clear hgi
            have hgz : g < wg.heap.size := by omega
            by_cases hlt : i < 8
            · have hd8 : decide ((i : Int) < 8) = true := by simp; omega
              have hti : (i : Int) < 8 := by omega
              have c1 : ∀ o o', ((wg.alloc o).alloc o').cell? ⟨g, i, none⟩ = some (.int .u32 (s.at i).toNat) := by
                intro o o'; rw [World.cell?_alloc_lt _ _ _ (by simp; omega), World.cell?_alloc_lt _ _ _ hgz, cell_blk Hgi.out, wrW_get _ _ _ _ (Nat.le_refl _), Hcs.out i hlt]
              have c1f : ∀ o o', ((wg.alloc o).alloc o').frozen? ⟨g, i, none⟩ = false := by
                intro o o'; exact free_blk (alloc_blk (alloc_blk Hgi.out _) _) _
              have c2 : (wcells x.list)[i]? = some (.int .u32 (x.at i).toNat) := by rw [wcells_get _ _ (by rw [St.list_length]; exact hlt)]; rfl
              have Hh : Hid (add32 (s.at i) (x.at i) = (s.plus x).at i) := Lib.hid (plus_at s x i hlt)
              generalize s.at i = si at c1 Hh
              generalize x.at i = xi at c2 Hh
              go_wp2
              refine region_tail 11 (by kernel_rfl) (by kernel_rfl) ?_
              simp only [List.take_succ_cons, List.take_zero, List.drop_succ_cons, List.drop_zero]
              repeat still_step
              refine wpStill_nil ?_
              go_wp2
              go_roundw
              case rel => exact ⟨i + 1, _, wg.setCell ⟨g, i, none⟩ (.int .u32 (add32 si xi).toNat), by omega, by go_num, by rw [set_blk Hgi.out, wrW, Hh.out], grown_setCell hgr rfl _, by simpa [World.setCell] using hz, rfl⟩
              case measure => simp [intOf]; omega
            · obtain rfl : i = 8 := by omega
              have Hfin : Hid (compress s m = s.plus x) := Lib.hid (by rw [Hx.out, compress, ← HS.out])
              go_wp2
              go_end0
              rw [Hfin.out]
              exact ⟨rfl, alloc_blk (alloc_blk Hgi.out _) _, grown_drewN (grown_alloc (grown_alloc hgr _) _) _⟩
end Go.Proofs.YtkdkpnidiehdfaaDoor
