import Derived.Test.YtkdkpnidiehdfaaDoorDa
import Derived.Test.YtkdkpnidiehdfaaDoorSha
set_option linter.unusedSimpArgs false
set_option linter.unusedVariables false
namespace Go.Proofs.YtkdkpnidiehdfaaDoor
open Go.RowKit
attribute [local go_sem] wrap_u32_mod w32_add w32_xor w32_and w32_or w32_div8 w32_div1024 w32_not w32_not' signed_u32

theorem pw_step (m : Nat → UInt8) (at_ i : Nat) : bits .or .u32 ((pw m at_ i).toNat * 256 % 4294967296) ((m (at_ + i)).toNat) = ((pw m at_ (i + 1)).toNat : Int) := by
  have h := u32_shl (pw m at_ i) 8 (by omega)
  rw [wrap_u32_mod] at h
  rw [show (256 : Int) = 2 ^ 8 from rfl, h, u8_to_u32, u32_or]
  rfl

theorem pw_step' (m : Nat → UInt8) (at_ i : Nat) : bits .or .u32 ((pw m at_ i).toNat * 256 % 4294967296) ((m (at_ + i)).toNat % 4294967296) = ((pw m at_ (i + 1)).toNat : Int) := by
  rw [← pw_step]; congr 1; have := u8_lt (m (at_ + i)); omega

set_option maxRecDepth 100000 in
set_option maxHeartbeats 4000000 in
theorem block_ref (s : St) (m : Nat → UInt8) (len cap at_ : Nat) (w : World) (b off : Nat)
   (hb : ∀ j, j < 64 → w.cell? ⟨b, off + (at_ + j), none⟩ = some (.int .u8 (m j).toNat)) (hblt : b < w.heap.size) (hl : at_ + 64 ≤ len) (hmax : len ≤ 1000000000000) :
    Calls Tryd.prog 56 #[.agg s.cells, .agg (wcells kTab), .slice (some ⟨b, off, none⟩) len cap, .int .i64 at_] w fun e w' => e = .returned (.agg (compress s m).cells) ∧ Below w.heap.size w w' := by
  unfold St.cells
  have Hb := Lib.hid hb
  clear hb
  go_enter Tryd.func56, Tryd.ntmps56
  go_wp2
  generalize hW : (((w.alloc (Obj.cells _ 31)).alloc (Obj.cells (wcells kTab) 101)).alloc (Obj.cells _ 31)) = w3
  have hsz : w.heap.size + 1 + 1 + 1 = w3.heap.size := by rw [← hW]; simp
  rw [hsz]
  have HB : Hid (∀ o, w3.cell? ⟨b, o, none⟩ = w.cell? ⟨b, o, none⟩) := Lib.hid (by
    intro o; rw [← hW]
    rw [World.cell?_alloc_lt _ _ _ (by simp; omega), World.cell?_alloc_lt _ _ _ (by simp; omega), World.cell?_alloc_lt _ _ _ (by simp; omega)])
  have hb3 : b < w3.heap.size := by omega
  have Hsz := Lib.hid hsz
  have HW := Lib.hid hW
  clear hsz hW
  go_loopw [10] (fun i wr => ∃ (t n : Nat), t ≤ 64 ∧ i = .int .i64 t ∧ wr = (w3.alloc (.cells (wcells (wst m t)) 101)).drewN n) (fun i _ => 64 - (intOf i).toNat)
  case atStart => exact ⟨0, 0, by omega, rfl, rfl⟩
  case round =>
    obtain ⟨t, n, ht, rfl, rfl⟩ := hrel
    by_cases hlt : t < 64
    · have hd64 : decide ((t : Int) < 64) = true := by simp; omega
      have hti : (t : Int) < 64 := by omega
      by_cases h16 : t < 16
      · have hd16 : decide ((t : Int) < 16) = true := by simp; omega
        go_wp2
        go_loopw [11] (fun i wr => ∃ (i' n : Nat), i' ≤ 4 ∧ i = .int .i64 i' ∧ wr = (w3.alloc (.cells (wcells (wpt m t i')) 101)).drewN n) (fun i _ => 4 - (intOf i).toNat)
        case atStart => exact ⟨0, _, by omega, rfl, by rw [wpt_zero m t hlt]⟩
        case round =>
          obtain ⟨i, n, hi, rfl, rfl⟩ := hrel
          by_cases h4 : i < 4
          · have hcw : (wcells (wpt m t i))[t]? = some (.int .u32 (pw m (4 * t) i).toNat) := by rw [wcells_get _ _ (by rw [wpt_length _ _ _ ht]; exact hlt), wpt_get m t i hlt]
            have hcb : (w3.alloc (.cells (wcells (wpt m t i)) 101)).cell? ⟨b, off + (at_ + 4 * t + i), none⟩ = some (.int .u8 (m (4 * t + i)).toNat) := by
              rw [World.cell?_alloc_lt _ _ _ hb3, HB.out, Nat.add_assoc at_, Hb.out _ (by omega)]
            have hpw := pw_step' m (4 * t) i
            have e1 : IntKind.i64.wrap (4 * (t : Int)) = 4 * t := wi64 _ (by omega) (by omega)
            have e2 : IntKind.i64.wrap ((at_ : Int) + 4 * t) = at_ + 4 * t := wi64 _ (by omega) (by omega)
            have e3 : IntKind.i64.wrap ((at_ : Int) + 4 * t + i) = at_ + 4 * t + i := wi64 _ (by omega) (by omega)
            have e4 : ((at_ : Int) + 4 * t + i).toNat = at_ + 4 * t + i := by omega
            have g1 : 0 ≤ (at_ : Int) + 4 * t + i := by omega
            have g2 : (at_ : Int) + 4 * t + i < len := by omega
            go_wp2
            refine region_tail 17 (by kernel_rfl) (by kernel_rfl) ?_
            simp only [List.take_succ_cons, List.take_zero, List.drop_succ_cons, List.drop_zero]
            repeat still_step
            refine wpStill_nil ?_
            clear e1 e2 e3 e4
            go_wp2
            go_roundw
            case rel => exact ⟨i + 1, n + 1, by omega, by go_num, by rw [wcells_set, wpt_set]; rfl⟩
            case measure => simp [intOf]; omega
          · obtain rfl : i = 4 := by omega
            go_wp2
            go_roundw
            case rel => exact ⟨t + 1, n, by omega, by go_num, by rw [wpt_four m t h16]⟩
            case measure => simp [intOf]; omega
      · have h1 : (wst m t).getD (t - 15) 0 = (sched m t).getD (t - 15) 0 := wst_getD m t _ (by omega)
        have h2 : (wst m t).getD (t - 2) 0 = (sched m t).getD (t - 2) 0 := wst_getD m t _ (by omega)
        have h3 : (wst m t).getD (t - 7) 0 = (sched m t).getD (t - 7) 0 := wst_getD m t _ (by omega)
        have h4 : (wst m t).getD (t - 16) 0 = (sched m t).getD (t - 16) 0 := wst_getD m t _ (by omega)
        have hlw := wst_length m t ht
        have c1 : (wcells (wst m t))[t - 15]? = some (.int .u32 ((sched m t).getD (t - 15) 0).toNat) := by rw [wcells_get _ _ (by omega), h1]
        have c2 : (wcells (wst m t))[t - 2]? = some (.int .u32 ((sched m t).getD (t - 2) 0).toNat) := by rw [wcells_get _ _ (by omega), h2]
        have c3 : (wcells (wst m t))[t - 7]? = some (.int .u32 ((sched m t).getD (t - 7) 0).toNat) := by rw [wcells_get _ _ (by omega), h3]
        have c4 : (wcells (wst m t))[t - 16]? = some (.int .u32 ((sched m t).getD (t - 16) 0).toNat) := by rw [wcells_get _ _ (by omega), h4]
        have c0 : (wcells (wst m t))[t]? = some (.int .u32 0) := by rw [wcells_get _ _ (by omega), wst_zero m t hlt]; rfl
        clear h1 h2 h3 h4 hlw
        generalize hx15 : (sched m t).getD (t - 15) 0 = x15 at c1
        generalize hx2 : (sched m t).getD (t - 2) 0 = x2 at c2
        generalize hx7 : (sched m t).getD (t - 7) 0 = x7 at c3
        generalize hx16 : (sched m t).getD (t - 16) 0 = x16 at c4
        have Hx : Hid (s1 x2 + x7 + s0 x15 + x16 = nextW m (sched m t)) := Lib.hid (by
          rw [nextW, sched_length, if_neg h16, hx15, hx2, hx7, hx16])
        clear hx15 hx2 hx7 hx16
        have t1 : ((t : Int) - 15).toNat = t - 15 := by omega
        have t2 : ((t : Int) - 2).toNat = t - 2 := by omega
        have t3 : ((t : Int) - 7).toNat = t - 7 := by omega
        have t4 : ((t : Int) - 16).toNat = t - 16 := by omega
        have e1 : IntKind.i64.wrap ((t : Int) - 15) = t - 15 := wi64 _ (by omega) (by omega)
        have e2 : IntKind.i64.wrap ((t : Int) - 2) = t - 2 := wi64 _ (by omega) (by omega)
        have e3 : IntKind.i64.wrap ((t : Int) - 7) = t - 7 := wi64 _ (by omega) (by omega)
        have e4 : IntKind.i64.wrap ((t : Int) - 16) = t - 16 := wi64 _ (by omega) (by omega)
        have g1 : 15 ≤ (t : Int) := by omega
        have g1' : (t : Int) - 15 < 64 := by omega
        have g2 : 2 ≤ (t : Int) := by omega
        have g2' : (t : Int) - 2 < 64 := by omega
        have g3 : 7 ≤ (t : Int) := by omega
        have g3' : (t : Int) - 7 < 64 := by omega
        have g4 : 16 ≤ (t : Int) := by omega
        have g4' : (t : Int) - 16 < 64 := by omega
        go_wp2
        have hd16 : decide ((t : Int) < 16) = false := by simp; omega
        go_quiet ((go_at_call 72; exact quiet_add (ref_right _ _ _ (by omega) (by omega))))
        go_wp2
        go_quiet ((go_at_call 72; exact quiet_add (ref_right _ _ _ (by omega) (by omega))))
        go_wp2
        refine region_tail 15 (by kernel_rfl) (by kernel_rfl) ?_
        simp only [List.take_succ_cons, List.take_zero, List.drop_succ_cons, List.drop_zero]
        repeat still_step
        refine wpStill_nil ?_
        clear e1 e2 e3 e4
        go_wp2
        go_roundw
        case rel => exact ⟨t + 1, _, by omega, by go_num, by
          rw [wcells_set, show add32 (add32 (add32 (xor32 (xor32 (rotr x2 17) (rotr x2 19)) (shr32 x2 10)) x7) (xor32 (xor32 (rotr x15 7) (rotr x15 18)) (shr32 x15 3))) x16 = nextW m (sched m t) from Hx.out, wst_set m t hlt]⟩
        case measure => simp [intOf]; omega
    · obtain rfl : t = 64 := by omega
      rw [show ((64 : Nat) : Int) = 64 from rfl]
      have HS : Hid (wst m 64 = sched m 64) := Lib.hid (by simp [wst])
      generalize hws : wst m 64 = ws
      rw [hws] at HS
      have hwl : ws.length = 64 := by rw [← hws]; exact wst_length m 64 (by omega)
      have Hwl := Lib.hid hwl
      clear hws hwl
      have hW := HW.out
      subst hW
      clear HB Hsz hb3 HW ht hlt
      simp only [World.size_alloc]
      go_wp2
      generalize hW4 : ((((w.alloc (Obj.cells _ 31)).alloc (Obj.cells (wcells kTab) 101)).alloc (Obj.cells _ 31)).alloc (Obj.cells (wcells ws) 101)) = w4
      have hsz : w.heap.size + 1 + 1 + 1 + 1 = w4.heap.size := by rw [← hW4]; simp
      rw [hsz]
      have Hk : Hid (∀ t, t < 64 → w4.cell? ⟨w.heap.size + 1, t, none⟩ = some (.int .u32 (kTab.getD t 0).toNat)) := Lib.hid (by
        intro t ht; rw [← hW4, ← wcells_get _ _ (by rw [kTab_length]; exact ht)]; simp [go_sem])
      have Hw : Hid (∀ t, t < 64 → w4.cell? ⟨w.heap.size + 1 + 1 + 1, t, none⟩ = some (.int .u32 (ws.getD t 0).toNat)) := Lib.hid (by
        intro t ht; rw [← hW4, ← wcells_get _ _ (by rw [Hwl.out]; exact ht)]; simp [go_sem])
      have Hsz := Lib.hid hsz
      have HW4 := Lib.hid hW4
      clear hsz hW4
      go_loopw [15] (fun i wr => ∃ (t n : Nat) (x : St), t ≤ 64 ∧ i = .int .i64 t ∧ x = rounds_ s ws t ∧ wr = (w4.alloc (.cells #[.int .u32 x.a.toNat, .int .u32 x.b.toNat, .int .u32 x.c.toNat, .int .u32 x.d.toNat, .int .u32 x.e.toNat, .int .u32 x.f.toNat, .int .u32 x.g.toNat, .int .u32 x.h.toNat] 31)).drewN n) (fun i _ => 64 - (intOf i).toNat)
      case atStart => exact ⟨0, _, s, by omega, rfl, rfl, rfl⟩
      case round =>
        obtain ⟨t, n, x, ht, rfl, hx, rfl⟩ := hrel
        have Hx := Lib.hid hx
        clear hx
        by_cases hlt : t < 64
        · have hd64 : decide ((t : Int) < 64) = true := by simp; omega
          have hti : (t : Int) < 64 := by omega
          have ck : ∀ o, (w4.alloc o).cell? ⟨w.heap.size + 1, t, none⟩ = some (.int .u32 (kTab.getD t 0).toNat) := by
            intro o; rw [World.cell?_alloc_lt _ _ _ (by have := Hsz.out; simp; omega), Hk.out t hlt]
          have cw : ∀ o, (w4.alloc o).cell? ⟨w.heap.size + 1 + 1 + 1, t, none⟩ = some (.int .u32 (ws.getD t 0).toNat) := by
            intro o; rw [World.cell?_alloc_lt _ _ _ (by have := Hsz.out; simp; omega), Hw.out t hlt]
          generalize hk : kTab.getD t 0 = k at ck
          generalize hw : ws.getD t 0 = wt at cw
          have HK := Lib.hid hk
          have HWT := Lib.hid hw
          clear hk hw
          go_wp2
          go_quiet ((go_at_call 72; exact quiet_add (ref_right _ _ _ (by omega) (by omega))))
          go_wp2
          go_quiet ((go_at_call 72; exact quiet_add (ref_right _ _ _ (by omega) (by omega))))
          go_wp2
          go_roundw
          case rel => exact ⟨t + 1, _, rnd x k wt, by omega, by go_num, by rw [rounds_, ← Hx.out, HK.out, HWT.out], rfl⟩
          case measure => simp [intOf]; omega
        · obtain rfl : t = 64 := by omega
          rw [show ((64 : Nat) : Int) = 64 from rfl]
          have hxc : #[Value.int .u32 (x.a.toNat : Int), .int .u32 x.b.toNat, .int .u32 x.c.toNat, .int .u32 x.d.toNat, .int .u32 x.e.toNat, .int .u32 x.f.toNat, .int .u32 x.g.toNat, .int .u32 x.h.toNat] = wcells x.list := rfl
          rw [hxc]
          have hW := HW4.out
          subst hW
          clear Hk Hw Hsz HW4 ht hlt
          simp only [World.size_alloc]
          rw [show #[Value.int .u32 (s.a.toNat : Int), .int .u32 s.b.toNat, .int .u32 s.c.toNat, .int .u32 s.d.toNat, .int .u32 s.e.toNat, .int .u32 s.f.toNat, .int .u32 s.g.toNat, .int .u32 s.h.toNat] = wcells s.list from rfl]
          go_wp2
          go_loopw [18] (fun v wr => ∃ (i n : Nat), i ≤ 8 ∧ v = .int .i64 i ∧ wr = (((((w.alloc (.cells (wcells (half s x i)) 31)).alloc (.cells (wcells kTab) 101)).alloc (.cells #[.int .u32 0, .int .u32 0, .int .u32 0, .int .u32 0, .int .u32 0, .int .u32 0, .int .u32 0, .int .u32 0] 31)).alloc (.cells (wcells ws) 101)).alloc (.cells (wcells x.list) 31)).drewN n) (fun i _ => 8 - (intOf i).toNat)
          case atStart => exact ⟨0, _, by omega, rfl, by rw [half_zero]⟩
          case round =>
            obtain ⟨i, n, hi, rfl, rfl⟩ := hrel
            by_cases hlt : i < 8
            · have hd8 : decide ((i : Int) < 8) = true := by simp; omega
              have hti : (i : Int) < 8 := by omega
              have c1 : (wcells (half s x i))[i]? = some (.int .u32 (s.list.getD i 0).toNat) := by rw [wcells_get _ _ (by rw [half_length _ _ _ hi]; exact hlt), half_get s x i hlt]
              have c2 : (wcells x.list)[i]? = some (.int .u32 (x.list.getD i 0).toNat) := by rw [wcells_get _ _ (by rw [St.list_length]; exact hlt)]
              have Hh : Hid ((half s x i).set i (add32 (s.list.getD i 0) (x.list.getD i 0)) = half s x (i + 1)) := Lib.hid (half_set s x i hlt)
              generalize s.list.getD i 0 = si at c1 Hh
              generalize x.list.getD i 0 = xi at c2 Hh
              go_wp2
              refine region_tail 9 (by kernel_rfl) (by kernel_rfl) ?_
              simp only [List.take_succ_cons, List.take_zero, List.drop_succ_cons, List.drop_zero]
              repeat still_step
              refine wpStill_nil ?_
              go_wp2
              go_roundw
              case rel => exact ⟨i + 1, _, by omega, by go_num, by rw [wcells_set, Hh.out]⟩
              case measure => simp [intOf]; omega
            · obtain rfl : i = 8 := by omega
              rw [half_eight, show wcells (s.plus x).list = #[.int .u32 (s.plus x).a.toNat, .int .u32 (s.plus x).b.toNat, .int .u32 (s.plus x).c.toNat, .int .u32 (s.plus x).d.toNat, .int .u32 (s.plus x).e.toNat, .int .u32 (s.plus x).f.toNat, .int .u32 (s.plus x).g.toNat, .int .u32 (s.plus x).h.toNat] from rfl]
              have hfin : compress s m = s.plus x := by rw [Hx.out, compress, ← HS.out]
              have Hfin := Lib.hid hfin
              clear hfin
              generalize s.plus x = y at Hfin
              go_wp2
              refine bodyPost_ret (v := .agg y.cells) (by simp [results, Tryd.results56, St.cells, go_sem]) rfl ⟨by rw [← Hfin.out]; rfl, ?_⟩
              exact below_drewN ((((((Below.refl _ _).alloc (Nat.le_refl _) _).alloc (by simp) _).alloc (by simp; omega) _).alloc (by simp; omega) _).alloc (by simp; omega) _) _
end Go.Proofs.YtkdkpnidiehdfaaDoor
