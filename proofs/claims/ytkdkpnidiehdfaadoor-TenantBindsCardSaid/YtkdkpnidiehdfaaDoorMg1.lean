/- several texts in one: a tenant built of its parts; a slice of one tenant., TenantBinds. -/
import Derived.Test.YtkdkpnidiehdfaaDoorUa
import Derived.Test.YtkdkpnidiehdfaaDoorNw
import Derived.Test.YtkdkpnidiehdfaaDoorMg2
import Derived.Great.BuildSlice
import Derived.Test.YtkdkpnidiehdfaaDoorZk
import Derived.OpenShut
section
set_option linter.unusedSimpArgs false
set_option linter.unusedVariables false
namespace Go.Proofs.YtkdkpnidiehdfaaDoor
open Go.RowKit

set_option maxRecDepth 100000 in
theorem built_lit (s : ByteArray) (b0 b1 b2 b3 b4 b5 b6 b7 b8 b9 b10 b11 b12 b13 b14 b15 b16 b17 b18 b19 b20 b21 b22 b23 b24 b25 b26 b27 b28 b29 b30 b31 : Value) (r j c : Int) :
    Tryd.prog.built 77 [(0, .string s), (1, .agg #[b0, b1, b2, b3, b4, b5, b6, b7, b8, b9, b10, b11, b12, b13, b14, b15, b16, b17, b18, b19, b20, b21, b22, b23, b24, b25, b26, b27, b28, b29, b30, b31]), (2, .int .i64 r), (3, .int .i64 j), (4, .int .i64 c)] = some #[.string s, b0, b1, b2, b3, b4, b5, b6, b7, b8, b9, b10, b11, b12, b13, b14, b15, b16, b17, b18, b19, b20, b21, b22, b23, b24, b25, b26, b27, b28, b29, b30, b31, .int .i64 r, .int .i64 j, .int .i64 c] := by kernel_rfl
set_option maxRecDepth 100000 in
theorem built_tn (u : Tn) (h : u.tok.length = 32) : Tryd.prog.built 77 [(0, .string (str u.nm)), (1, dg u.tok), (2, .int .i64 u.res), (3, .int .i64 u.jobs), (4, .int .i64 u.conns)] = some (tnl u).toArray := by
  obtain ⟨nm, tok, res, jobs, conns⟩ := u
  simp only at h ⊢
  have hl : (bcells tok).length = 32 := by simp [bcells, h]
  unfold tnl dg
  simp only
  generalize bcells tok = l at *
  match l, hl with
  | [b0, b1, b2, b3, b4, b5, b6, b7, b8, b9, b10, b11, b12, b13, b14, b15, b16, b17, b18, b19, b20, b21, b22, b23, b24, b25, b26, b27, b28, b29, b30, b31], _ => exact built_lit (str nm) b0 b1 b2 b3 b4 b5 b6 b7 b8 b9 b10 b11 b12 b13 b14 b15 b16 b17 b18 b19 b20 b21 b22 b23 b24 b25 b26 b27 b28 b29 b30 b31 res jobs conns
theorem fill_tn (u : Tn) (h : u.tok.length = 32) (z : Value) (hz : z.cells.size = 36) : Instr.fill (fun i => some (i * 36, 36)) ((Array.range (1 * 36)).map (z.cells[· % z.cells.size]!)) [(0, tnv u)] = some (tnl u).toArray := by
  have hv : (tnv u).cells = (tnl u).toArray := rfl
  obtain ⟨r, h1, h2, h3⟩ := Great.fill_dense (s := 36) (by omega) [tnv u] 0 ((Array.range (1 * 36)).map (z.cells[· % z.cells.size]!)) (fun v hv' => by simp at hv'; rw [hv', hv, List.size_toArray, tnl_length h]) (by simp)
  have e : r = (tnl u).toArray := by
    apply Array.ext
    · rw [tnl_size h, h2]; simp
    · intro k hk1 hk2
      have hk : k < 36 := by rw [h2] at hk1; simpa using hk1
      have := h3 k
      rw [if_pos ⟨by omega, by simpa using hk⟩] at this
      rw [show k / 36 - 0 = 0 by omega, show k % 36 = k by omega] at this
      rw [Array.getElem?_eq_getElem hk1] at this
      simp only [List.getElem?_cons_zero, Option.bind_some, hv] at this
      rw [Array.getElem?_eq_getElem hk2] at this
      exact Option.some.inj this
  rw [← e]
  exact h1
set_option maxRecDepth 100000 in
theorem run_slice_tn (u : Tn) (h : u.tok.length = 32) (w : World) : (Instr.buildSlice 67 1 #[(0, tnv u)]).run Tryd.prog w = .ok (.slice (some ⟨w.heap.size, 0, none⟩) 1 1) (w.alloc (.cells (tnl u).toArray 77)) := by
  have hi := ES36.hi
  have hzz := ES36.hz
  cases hq : Tryd.prog.info? 77 with
  | none => rw [hq] at hi; simp at hi
  | some i =>
    rw [hq] at hi
    simp only [Option.map_some, Option.some.injEq, Prod.mk.injEq] at hi
    refine run_buildSlice w 67 77 1 _ _ i (tnv tn0) Tryd.underlying67 hq hi.1 (by rw [hi.2.1]; omega) (by rw [hi.2.1]; omega) ?_
    rw [hi.2.1]
    exact fill_tn u h (tnv tn0) hzz
theorem rel_build_tn {B : Nat} {ops : Array Oper} {op : Oper} {a : Act} {w : World} (hw : Region.wanted op (yielded ops a.tmps) = true) (x y : Operand) (r j c : Int) (ho : op.op = .build 77 #[(0, x), (1, y), (2, .const (.int .i64 r)), (3, .const (.int .i64 j)), (4, .const (.int .i64 c))])
    (nm tok : List UInt8) (hu : tok.length = 32) (hx : a.eval x = .string (str nm)) (hy : a.eval y = dg tok) :
    relOpS Tryd.prog B ops op a (.inl (tnv ⟨nm, tok, r, j, c⟩)) w := by
  unfold relOpS
  rw [if_pos hw]
  have hr : (execOp a.eval op).run Tryd.prog w = .ok (.value (tnv ⟨nm, tok, r, j, c⟩)) w := by
    have ec : ∀ v, a.eval (.const v) = v := fun _ => rfl
    have h1 := run_build w 77 #[(0, .string (str nm)), (1, dg tok), (2, .int .i64 r), (3, .int .i64 j), (4, .int .i64 c)] _ (built_tn ⟨nm, tok, r, j, c⟩ hu)
    unfold execOp
    simp only [ho, List.map_toArray, List.map_cons, List.map_nil, hx, hy, ec, Sem.run_bind, h1, Result.andThen_ok, Sem.run_pure]
    rfl
  rw [hr]
  exact ⟨StayS.refl _ _, rfl⟩
theorem rel_slice_tn {ops : Array Oper} {op : Oper} {a : Act} {w0 w : World} (hw : Region.wanted op (yielded ops a.tmps) = true) (x : Operand) (ho : op.op = .buildSlice 67 1 #[(0, x)]) (u : Tn) (hu : u.tok.length = 32) (hx : a.eval x = tnv u) (hW : Below w0.heap.size w0 w) :
    relOpS Tryd.prog w0.heap.size ops op a (.inr (NewR w0.heap.size 77 (tnl u).toArray 1)) w := by
  unfold relOpS
  rw [if_pos hw]
  have hr : (execOp a.eval op).run Tryd.prog w = .ok (.value (.slice (some ⟨w.heap.size, 0, none⟩) 1 1)) (w.alloc (.cells (tnl u).toArray 77)) := by
    unfold execOp
    simp only [ho, List.map_toArray, List.map_cons, List.map_nil, hx, Sem.run_bind, run_slice_tn u hu w, Result.andThen_ok, Sem.run_pure]
  rw [hr]
  exact newR_alloc hW (Nat.le_refl _)
theorem sum_of (l : List UInt8) (n : Nat) (hn : n = l.length) (hl : n ≤ 100000000) (A : Option Addr) (c : Nat) (w : World) (hA : Bs w w.heap.size A l) (hk : KMem w) : Calls Tryd.prog 16 #[.slice A n c] w fun e w' => e = .returned (dg (sha l)) ∧ Below w.heap.size w w' := by
  subst hn
  refine (dig_sum l hl A c w hA hk).mono ?_
  rintro e w' ⟨rfl, h2⟩
  exact ⟨by rw [finish_sha], h2⟩
theorem bNm_cells {i : Nat} (hi : i < 64) : (bcells (bNm i)).toArray = #[.int .u8 116, .int .u8 (97 + (i : Int) / 8), .int .u8 (97 + (i : Int) % 8)] := by
  have h1 : (UInt8.ofNat (97 + i / 8)).toNat = 97 + i / 8 := by simp; omega
  have h2 : (UInt8.ofNat (97 + i % 8)).toNat = 97 + i % 8 := by simp; omega
  simp only [bNm, bcells, List.map_cons, List.map_nil, h1, h2]
  simp
theorem one_cells {i : Nat} (hi : i < 64) : (bcells [UInt8.ofNat i]).toArray = #[.int .u8 (i : Int)] := by
  have h1 : (UInt8.ofNat i).toNat = i := by simp; omega
  simp only [bcells, List.map_cons, List.map_nil, h1]
end Go.Proofs.YtkdkpnidiehdfaaDoor
end

section
set_option linter.unusedSimpArgs false
set_option linter.unusedVariables false
namespace Go.Proofs.YtkdkpnidiehdfaaDoor
open Go.RowKit

theorem wu8 (n : Nat) (h : n < 256) : IntKind.u8.wrap (n : Int) = n := by
  rw [wrap_u8_nat]
  simp
  omega
theorem pick_cases (ts : List Tn) (d : List UInt8) (k : Nat) : pick ts d k = -1 ∨ 0 ≤ pick ts d k := by have := (pick_range ts d k).1; omega
theorem ofNat_toNat (c : UInt8) : UInt8.ofNat c.toNat = c := by simp
/- the second loop: is one's token this one's? -/
/- the tenants are made, and the table; the one call. -/
set_option maxRecDepth 100000 in
set_option maxHeartbeats 16000000 in
theorem tenantbinds_in (N : Nat) (hN1 : 1 ≤ N) (hN2 : N ≤ 64) (x : Int) (hx : inI x) (hx0 : 0 ≤ x) (tok : List UInt8) (A : Option Addr) (ct : Nat) (nt : Nat) (hnt : nt = tok.length) (hl : nt ≤ 200) (w : World) (hA : Bs w w.heap.size A tok) (hk : KMem w) :
    Calls Tryd.prog 11 #[.int .i64 N, .int .i64 x, .slice A nt ct] w fun e w' => e = .returned (.bool true) ∧ Below w.heap.size w w' := by
  have HK := Lib.hid hk; have HA := Lib.hid hA; have HX := Lib.hid hx; have HNT := Lib.hid hnt
  clear hk hA hx hnt
  go_enter Tryd.func11, Tryd.ntmps11
  go_wp2_with fail
  refine (awake_at w HK.out).mono ?_
  rintro e w1 ⟨rfl, hb⟩
  have HB1 := Lib.hid hb
  clear hb
  go_wp2_with fail
  go_loopw [8, 9] (fun lv iv wr => ∃ i : Nat, i ≤ N ∧ iv = .int .i64 i ∧ wr.ownsRow w1.heap.size 77 36 lv i (tnc (bTns i)) ∧ Below w1.heap.size w1 wr) (fun _ iv _ => N - (RowKit.intOf iv).toNat)
  case atStart => exact ⟨0, by omega, rfl, ⟨rfl, .inl ⟨rfl, rfl⟩⟩, Below.refl _ _⟩
  case round =>
    obtain ⟨i, hi, rfl, hown, hb⟩ := hrel
    obtain ⟨Al, cl, rfl, hr, hal0, hlc⟩ := own_rdS hown
    have HO := Lib.hid hown; have HB := Lib.hid hb; have HRL := Lib.hid hr; have HAL0 := Lib.hid hal0
    clear hown hb hr hal0
    have HKR := Lib.hid ((HK.out.ext HB1.out).ext HB.out)
    by_cases hlt : i < N
    · have HTU : Hid ((sha [UInt8.ofNat i]).length = 32) := Lib.hid (sha_length _)
      have HSUM : Hid (∀ (g : Nat) (W : World), W.heap[g]? = some (.cells #[.int .u8 (i : Int)] 5 (0, 0)) → KMem W → Calls Tryd.prog 16 #[.slice (some ⟨g, 0, none⟩) 1 1] W fun e W' => e = .returned (dg (sha [UInt8.ofNat i])) ∧ Below W.heap.size W W') := Lib.hid fun g W hg hkW => sum_of [UInt8.ofNat i] 1 rfl (by decide) (some ⟨g, 0, none⟩) 1 W (Bs.blk (T := 5) (by rw [one_cells (by omega)]; exact hg)) hkW
      have HSTR : Hid (∀ (g : Nat) (W : World), W.heap[g]? = some (.cells #[.int .u8 116, .int .u8 (97 + (i : Int) / 8), .int .u8 (97 + (i : Int) % 8)] 5 (0, 0)) → (convert 22 9 (.slice (some ⟨g, 0, none⟩) 3 3)).run Tryd.prog W = .ok (.string (str (bNm i))) W) := Lib.hid fun g W hg => run_conv_bytes W 22 5 9 Tryd.underlying22 Tryd.underlying5 Tryd.underlying9 W.heap.size (some ⟨g, 0, none⟩) (bNm i) 3 3 rfl (Bs.blk (T := 5) (by rw [bNm_cells (by omega)]; exact hg)) (by intro h; cases h)
      have HST : Hid (tnc (bTns i) ++ tnl (bTn i) = tnc (bTns (i + 1))) := Lib.hid (by rw [bTns_succ, tnc_app]; simp [tnc])
      have HTN : Hid ((⟨bNm i, sha [UInt8.ofNat i], 60000, 1, 1⟩ : Tn) = bTn i) := Lib.hid rfl
      have HTL : Hid ((tnl (bTn i)).length = 1 * 36) := Lib.hid (tnl_length (sha_length _))
      have E3 : Hid (IntKind.u8.wrap (i : Int) = (i : Int)) := Lib.hid (wu8 i (by omega))
      have E1 : Hid (IntKind.u8.wrap (IntKind.i64.wrap (97 + IntKind.i64.wrap ((i : Int) / 8))) = 97 + (i : Int) / 8) := Lib.hid (by
        rw [wi64 ((i : Int) / 8) (by omega) (by omega), wi64 (97 + (i : Int) / 8) (by omega) (by omega)]
        have := wu8 (97 + i / 8) (by omega)
        rwa [show ((97 + i / 8 : Nat) : Int) = 97 + (i : Int) / 8 by omega] at this)
      have E2 : Hid (IntKind.u8.wrap (IntKind.i64.wrap (97 + (i : Int).tmod 8)) = 97 + (i : Int) % 8) := Lib.hid (by
        rw [Int.tmod_eq_emod_of_nonneg (by omega), wi64 _ (by omega) (by omega)]
        have := wu8 (97 + i % 8) (by omega)
        rwa [show ((97 + i % 8 : Nat) : Int) = 97 + (i : Int) % 8 by omega] at this)
      go_upto_region 8 with fail
      apply wp_region_relS 17 [(Sum.inl _ : TT), (Sum.inl _ : TT), (Sum.inl _ : TT), (Sum.inl _ : TT), (Sum.inl _ : TT), (Sum.inl _ : TT), (Sum.inl _ : TT), (Sum.inl _ : TT), (Sum.inl _ : TT), .inr (NewR wr.heap.size 5 #[.int .u8 116, .int .u8 (97 + (i : Int) / 8), .int .u8 (97 + (i : Int) % 8)] 3), (Sum.inl _ : TT), (Sum.inl _ : TT), (Sum.inl _ : TT), .inr (NewR wr.heap.size 5 #[.int .u8 (i : Int)] 1), (Sum.inl _ : TT), (Sum.inl _ : TT), .inr (NewR wr.heap.size 77 (tnl (bTn i)).toArray 1)] (by kernel_rfl) (by kernel_rfl) rfl
      simp only [List.take_succ_cons, List.take_zero, List.drop_succ_cons, List.drop_zero]
      iterate 9 (apply rel_isS; (intro W hW hf; go_simp; first | exact ⟨StayS.refl _ _, rfl⟩ | rfl); simp only [Act.put, List.setIfInBounds_toArray, List.set_cons_succ, List.set_cons_zero])
      refine rel_fitsS (fun W hW hf => ?_) (NewR.keepsS _ _ _ _) fun v1 => ?_
      · go_simp
        simp only [E1.out, E2.out, E3.out]
        exact newR_alloc hW (Nat.le_refl _)
      simp only [Act.put, List.setIfInBounds_toArray, List.set_cons_succ, List.set_cons_zero]
      apply rel_isS
      · intro W hW hf
        have h := hf (50, NewR wr.heap.size 5 #[.int .u8 116, .int .u8 (97 + (i : Int) / 8), .int .u8 (97 + (i : Int) % 8)] 3 v1) (by simp) (by simp [Oper.looksAt, Op.operands, Call.operands])
        obtain ⟨g, rfl, _, hg⟩ := h
        have hc := HSTR.out g W hg
        go_simp
        first | exact ⟨StayS.refl _ _, rfl⟩ | rfl
      simp only [Act.put, List.setIfInBounds_toArray, List.set_cons_succ, List.set_cons_zero]
      iterate 2 (apply rel_isS; (intro W hW hf; go_simp; first | exact ⟨StayS.refl _ _, rfl⟩ | rfl); simp only [Act.put, List.setIfInBounds_toArray, List.set_cons_succ, List.set_cons_zero])
      refine rel_fitsS (fun W hW hf => ?_) (NewR.keepsS _ _ _ _) fun v2 => ?_
      · go_simp
        simp only [E1.out, E2.out, E3.out]
        exact newR_alloc hW (Nat.le_refl _)
      simp only [Act.put, List.setIfInBounds_toArray, List.set_cons_succ, List.set_cons_zero]
      apply rel_isS
      · intro W hW hf
        have h := hf (54, NewR wr.heap.size 5 #[.int .u8 (i : Int)] 1 v2) (by simp) (by simp [Oper.looksAt, Op.operands, Call.operands])
        obtain ⟨g, rfl, _, hg⟩ := h
        exact rel_callS hW rfl (by go_simp <;> first | rfl | exact ⟨rfl, rfl⟩ | exact ⟨rfl, rfl, rfl⟩) ((HSUM.out g W hg (HKR.out.ext hW)).mono fun e W' ⟨h1, h2⟩ => ⟨_, h1, h2, rfl⟩)
      simp only [Act.put, List.setIfInBounds_toArray, List.set_cons_succ, List.set_cons_zero]
      apply rel_isS
      · intro W hW hf
        exact rel_build_tn rfl _ _ 60000 1 1 rfl (bNm i) (sha [UInt8.ofNat i]) HTU.out rfl rfl
      simp only [Act.put, List.setIfInBounds_toArray, List.set_cons_succ, List.set_cons_zero]
      refine rel_fitsS (fun W hW hf => ?_) (NewR.keepsS _ _ _ _) fun v3 => ?_
      · exact rel_slice_tn rfl _ rfl (bTn i) HTU.out rfl hW
      simp only [Act.put, List.setIfInBounds_toArray, List.set_cons_succ, List.set_cons_zero]
      refine rel_endS ?_
      intro W hW hf
      try simp only [Act.put, List.setIfInBounds_toArray, List.set_cons_succ, List.set_cons_zero]
      have h := hf (57, NewR wr.heap.size 77 (tnl (bTn i)).toArray 1 v3) (by simp)
      obtain ⟨g, rfl, _, hg⟩ := h
      have HOW := Lib.hid (own_belowS HO.out hW)
      have HBW := Lib.hid (HB.out.trans (hW.mono HB.out.size))
      have HRW : Hid (Rd W W.heap.size (some ⟨g, 0, none⟩) (tnl (bTn i))) := Lib.hid fun j u hu => ⟨g, 0, rfl, lt_blk hg, by rw [cell_blk hg, Nat.zero_add]; simpa using hu⟩
      clear hW hf hg
      go_wp2_with (at_builtin; refine wpList_append_srcS ES36 rfl (.tmp 41) (.tmp 57) rfl w1.heap.size _ i (tnc (bTns i)) rfl HOW.out W.heap.size (some ⟨g, 0, none⟩) (tnl (bTn i)) 1 1 rfl HTL.out HRW.out (by intro h; cases h) (tnl_one _) (by omega) (by omega) w1 (Nat.le_refl _) HBW.out ?_; intro v5 w8 h2 h3 h4 h5; clear h4 h5; have O8 := Lib.hid h2; have B8 := Lib.hid h3; clear h2 h3; obtain ⟨A8, c8, rfl, _, _, _⟩ := own_rdS O8.out)
      go_roundw
      case rel => exact ⟨i + 1, by omega, by go_num, by rw [← HST.out]; exact O8.out, B8.out⟩
      case measure => simp [RowKit.intOf]; omega
    · obtain rfl : i = N := by omega
      obtain ⟨N, rfl⟩ : ∃ y, y = i := ⟨i, rfl⟩
      have HBR := Lib.hid (HB1.out.trans (HB.out.mono HB1.out.size))
      have HTS : Hid (Tns wr wr.heap.size Al (bTns N)) := Lib.hid (Tns.of_rd HRL.out (bTns_toks N))
      go_wp2_with fail
      refine (tnew_ok (bTns N) N (bTns_length N).symm (by omega) (bTns_toks N) Al cl hlc wr HTS.out HAL0.out (chk_bTns N hN1 hN2)).mono ?_
      rintro e w4 ⟨p, m, rfl, ht4, _, hm4, hb⟩
      have HS4 : Hid (Ses w w4 p m ⟨bTns N, []⟩) := Lib.hid ⟨ht4, HKR.out.ext hb, HBR.out.trans (hb.mono HBR.out.size), by have := HBR.out.size; omega⟩
      have HTS4 := Lib.hid (HTS.out.ext hb)
      have HTB4 : Hid (TabAt w4 p m ⟨bTns N, []⟩ ∧ wr.heap.size ≤ m) := Lib.hid ⟨ht4, hm4⟩
      have HKEEP : Hid (∀ W, w4.grownBy W (some m) → Tns W W.heap.size Al (bTns N)) := Lib.hid fun W hg j hj => by
        obtain ⟨b, off, e, hbl, hr⟩ := (HTS.out.below hb) j hj
        exact ⟨b, off, e, by have := hg.size; have := hb.size; omega, fun k v hv => (World.cell?_of_block (hg.block b (by have := hb.size; omega) (by simp; omega))).trans (hr k v hv)⟩
      clear ht4 hm4 hb
      have HAT := Lib.hid (tauth_at HTB4.out.1 (by show 0 < 1000000; omega) HX.out tok nt HNT.out (by omega) A ct ((HA.out.below HS4.out.below).more HS4.out.below.size) HS4.out.kmem)
      unfold AuthP at HAT
      have HSUMW : Hid (∀ W, Below w.heap.size w W → KMem W → Calls Tryd.prog 16 #[.slice A nt ct] W fun e W' => e = .returned (dg (sha tok)) ∧ Below W.heap.size W W') := Lib.hid fun W hW hkW => sum_of tok nt HNT.out (by omega) A ct W ((HA.out.below hW).more hW.size) hkW
      by_cases hone : ∃ c : UInt8, tok = [c] ∧ c.toNat < N
      · obtain ⟨c, rfl, hcN⟩ := hone
        have hpk : pick (bTns N) (sha [c]) N = c.toNat := by
          have h1 := pick_bTn (n := N) (c := c.toNat) hN2 N (Nat.le_refl _) hcN
          have h2 : (bTn c.toNat).tok = sha [c] := by show sha [UInt8.ofNat c.toNat] = _; rw [ofNat_toNat]
          rw [h2] at h1
          exact h1
        have hau := auth_bTns (n := N) hx0 [c] (by rw [hpk]; omega)
        rw [hpk] at hau
        rw [hau] at HAT
        obtain ⟨ba, oa, rfl, hba, hca⟩ := HA.out 0 (by simp)
        obtain rfl : nt = 1 := HNT.out
        have hcT : ∀ W, Below w.heap.size w W → W.cell? ⟨ba, oa, none⟩ = some (.int .u8 (c.toNat : Int)) := fun W hW => (hW.cell (p := ⟨ba, oa, none⟩) hba).trans (by simpa using hca)
        have HCT := Lib.hid hcT
        clear hpk hau hca hcT
        generalize hk : c.toNat = k at *
        have hkb : k < 256 := by rw [← hk]; exact c.toNat_lt
        have HEQ := Lib.hid (sha_length [c])
        clear hk HTS HRL HO HB HAL0 HKR HSUMW
        have hk1 : (k : Int) < (N : Int) := by omega
        have gk : ((k : Int) == (k : Int)) = true := by simp
        go_wp2_with fail
        refine HAT.out.mono ?_
        rintro e w5 ⟨rfl, ht5, hg5⟩
        have HS5 := Lib.hid (HS4.out.turn ht5 hg5)
        have j0 := HCT.out w5 HS5.out.below
        clear ht5 hg5 HTS4 HTB4 HKEEP HAT
        go_wp2_with fail
        refine (HS5.out.who HX.out (one_who _ _ _)).mono ?_
        rintro e w6 ⟨rfl, hs⟩
        have HS6 := Lib.hid hs
        have j1 := HCT.out w6 hs.below
        clear hs j0
        go_wp2_with fail
        refine (HS6.out.conns k [x] (one_conns _ _)).mono ?_
        rintro e w7 ⟨vv, rfl, hrow, hb, hs⟩
        obtain ⟨A7, c7, rfl, hr7, _, _⟩ := own_rdS hrow
        have HS7 := Lib.hid hs; have HR7 := Lib.hid hr7
        clear hrow hb hs hr7 j1
        simp only [List.length_cons, List.length_nil, Nat.zero_add]
        have HSI : Hid (Calls Tryd.prog 40 #[.slice A7 1 c7, .slice (some ⟨w7.heap.size, 0, none⟩) 1 1] (w7.alloc (.cells #[.int .i64 x] 3)) fun e w' => e = .returned (.bool true) ∧ Below (w7.alloc (.cells #[.int .i64 x] 3)).heap.size (w7.alloc (.cells #[.int .i64 x] 3)) w') := Lib.hid (by
          have := ints_same [x] [x] 1 1 rfl rfl (by decide) (by decide) A7 (some ⟨w7.heap.size, 0, none⟩) c7 1 (w7.alloc (.cells #[.int .i64 x] 3)) ((HR7.out.keep fun b o hb => World.cell?_alloc_lt _ _ _ hb).more (by simp)) (fun j u hu => ⟨w7.heap.size, 0, rfl, by simp, by
            rw [cell_blk (heap_alloc_new _ _), Nat.zero_add]; simpa [encZ] using hu⟩)
          rw [decide_eq_true rfl] at this
          exact this)
        go_wp2_with fail
        refine HSI.out.mono ?_
        rintro e w8 ⟨rfl, hb⟩
        have HS8 := Lib.hid ((HS7.out.alloc (.cells #[.int .i64 x] 3)).ext hb)
        clear hb HSI
        go_wp2_with fail
        refine (HS8.out.leave HX.out (one_leave _ _ _)).mono ?_
        rintro e w9 ⟨rfl, hs⟩
        have HS9 := Lib.hid hs
        clear hs
        go_wp2_with fail
        refine (HS9.out.conns k [] (none_conns _)).mono ?_
        rintro e w10 ⟨vv, rfl, hrow, hb, hs⟩
        obtain ⟨A10, c10, rfl, _, _, _⟩ := own_rdS hrow
        have HS10 := Lib.hid hs
        clear hrow hb hs
        simp only [List.length_nil]
        go_wp2_with fail
        go_ret
        exact ⟨rfl, HS10.out.below⟩
      · have HFOUND : Hid (∀ i, i < N → (bTn i).tok = sha tok → ((⟨bTns N, []⟩ : Tb).auth x tok).1.2 = 0) := Lib.hid fun i hi he => by
          rw [auth_bTns hx0 tok (pick_some N i hi (by rw [bTns_get hi]; exact he))]
        have HNONE : Hid ((∀ j, j < N → (bTn j).tok ≠ sha tok) → (⟨bTns N, []⟩ : Tb).auth x tok = ((0, 11), ⟨bTns N, []⟩)) := Lib.hid fun hno => auth_no hx0 tok (pick_none N fun j hj => by rw [bTns_get hj]; exact hno j hj)
        generalize (⟨bTns N, []⟩ : Tb).auth x tok = r at *
        obtain ⟨⟨v1, v2⟩, t5⟩ := r
        simp only at HFOUND HAT
        clear HTS HRL HO HB HAL0 HKR
        have h13 : (nt ≠ 1) ∨ ∃ (b off : Nat) (c : Nat), A = some ⟨b, off, none⟩ ∧ nt = 1 ∧ c < 256 ∧ ¬ ((c : Int) < (N : Int)) ∧ ∀ W, Below w.heap.size w W → W.cell? ⟨b, off, none⟩ = some (.int .u8 (c : Int)) := by
          by_cases h1 : nt = 1
          · right
            have h2 : tok.length = 1 := by rw [← HNT.out]; exact h1
            obtain ⟨c, rfl⟩ := List.length_eq_one_iff.1 h2
            obtain ⟨ba, oa, e, hba, hca⟩ := HA.out 0 (by simp)
            refine ⟨ba, oa, c.toNat, e, h1, c.toNat_lt, fun h => hone ⟨c, rfl, by omega⟩, fun W hW => (hW.cell (p := ⟨ba, oa, none⟩) hba).trans (by simpa using hca)⟩
          · exact .inl h1
        clear hone
        go_wp2_with fail
        refine HAT.out.mono ?_
        rintro e w5 ⟨rfl, ht5, hg5⟩
        have HS5 := Lib.hid (HS4.out.turn ht5 hg5)
        have HTS5 := Lib.hid (HKEEP.out w5 hg5)
        clear ht5 hg5 HTS4 HTB4 HKEEP HAT
        rcases h13 with h13 | ⟨ba, oa, c, rfl, rfl, hc256, hcN, hcT⟩
        · have g13 : ((nt : Int) == 1) = false := by rw [beq_eq_false_iff_ne]; omega
          go_wp2_with fail
          go_loopw [16] (fun iv wr => ∃ i : Nat, i ≤ N ∧ iv = .int .i64 i ∧ (∀ j, j < i → (bTn j).tok ≠ sha tok) ∧ Below w5.heap.size w5 wr) (fun iv _ => N - (RowKit.intOf iv).toNat)
          case atStart => exact ⟨0, by omega, rfl, fun j hj => absurd hj (by omega), Below.refl _ _⟩
          case round =>
            obtain ⟨i, hi, rfl, hno, hb⟩ := hrel
            have HNO := Lib.hid hno; have HB := Lib.hid hb
            have HSR := Lib.hid (HS5.out.ext hb)
            clear hno hb
            by_cases hlt : i < N
            · obtain ⟨b, off, hAl, hbl, hr⟩ := (HTS5.out.below HB.out) i (by rw [bTns_length]; exact hlt)
              rw [bTns_get hlt] at hr
              subst hAl
              have HTI : Hid ((bTn i).tok.length = 32) := Lib.hid (sha_length _)
              have HRD : Hid (∀ W, Below wr.heap.size wr W → W.rangeAt b (off + i * 36 + 1) (bcells (bTn i).tok)) := Lib.hid fun W hW j v hv => (hW.cell (p := ⟨b, _, none⟩) (Nat.lt_of_lt_of_le hbl HB.out.size)).trans (TnAt.tok hr HTI.out j v hv)
              have HSUM := Lib.hid fun W (hW : Below wr.heap.size wr W) => HSUMW.out W (HSR.out.below.trans (hW.mono HSR.out.below.size)) (HSR.out.kmem.ext hW)
              have HSL := Lib.hid (sha_length tok)
              clear hr
              have hq1 : (i : Int) < (N : Int) := by omega
              go_upto_region 19 with fail
              by_cases htk : (bTn i).tok = sha tok
              · have HD : Hid (decide ((bTn i).tok = sha tok) = true) := Lib.hid (decide_eq_true htk)
                have HYES := Lib.hid (HFOUND.out i hlt htk)
                clear htk
                generalize (bTn i).tok = utok at *
                apply wp_region_relS 8 [(Sum.inl _ : TT), (Sum.inl _ : TT), (Sum.inl _ : TT), (Sum.inl _ : TT), (Sum.inl _ : TT), (Sum.inl _ : TT), (Sum.inl _ : TT), (Sum.inl _ : TT)] (by kernel_rfl) (by kernel_rfl) rfl
                simp only [List.take_succ_cons, List.take_zero, List.drop_succ_cons, List.drop_zero]
                iterate 4 (apply rel_isS; (intro W hW hf; go_simp; first | exact ⟨StayS.refl _ _, rfl⟩ | rfl); simp only [Act.put, List.setIfInBounds_toArray, List.set_cons_succ, List.set_cons_zero])
                apply rel_isS
                · intro W hW hf
                  exact rel_load_dig rfl _ rfl b (off + i * 36 + 1) rfl utok HTI.out (HRD.out W hW)
                simp only [Act.put, List.setIfInBounds_toArray, List.set_cons_succ, List.set_cons_zero]
                iterate 1 (apply rel_isS; (intro W hW hf; go_simp; first | exact ⟨StayS.refl _ _, rfl⟩ | rfl); simp only [Act.put, List.setIfInBounds_toArray, List.set_cons_succ, List.set_cons_zero])
                apply rel_isS
                · intro W hW hf
                  exact rel_callS hW rfl (by go_simp <;> first | rfl | exact ⟨rfl, rfl⟩ | exact ⟨rfl, rfl, rfl⟩) ((HSUM.out W hW).mono fun e W' ⟨h1, h2⟩ => ⟨_, h1, h2, rfl⟩)
                simp only [Act.put, List.setIfInBounds_toArray, List.set_cons_succ, List.set_cons_zero]
                apply rel_isS
                · intro W hW hf
                  exact rel_eql_dig rfl _ _ rfl utok (sha tok) HTI.out HSL.out rfl rfl _ HD.out
                simp only [Act.put, List.setIfInBounds_toArray, List.set_cons_succ, List.set_cons_zero]
                refine rel_endS ?_
                intro W hW hf
                try simp only [Act.put, List.setIfInBounds_toArray, List.set_cons_succ, List.set_cons_zero]
                have HE := Lib.hid (HSR.out.ext hW)
                clear hW hf
                have HY := HYES.out
                subst HY
                go_wp2_with fail
                go_ret
                exact ⟨rfl, HE.out.below⟩
              · have HD : Hid (decide ((bTn i).tok = sha tok) = false) := Lib.hid (decide_eq_false htk)
                have HNO2 : Hid (∀ j, j < i + 1 → (bTn j).tok ≠ sha tok) := Lib.hid fun j hj => by
                  by_cases e : j = i
                  · rw [e]; exact htk
                  · exact HNO.out j (by omega)
                clear htk
                generalize (bTn i).tok = utok at HD HTI HRD
                apply wp_region_relS 8 [(Sum.inl _ : TT), (Sum.inl _ : TT), (Sum.inl _ : TT), (Sum.inl _ : TT), (Sum.inl _ : TT), (Sum.inl _ : TT), (Sum.inl _ : TT), (Sum.inl _ : TT)] (by kernel_rfl) (by kernel_rfl) rfl
                simp only [List.take_succ_cons, List.take_zero, List.drop_succ_cons, List.drop_zero]
                iterate 4 (apply rel_isS; (intro W hW hf; go_simp; first | exact ⟨StayS.refl _ _, rfl⟩ | rfl); simp only [Act.put, List.setIfInBounds_toArray, List.set_cons_succ, List.set_cons_zero])
                apply rel_isS
                · intro W hW hf
                  exact rel_load_dig rfl _ rfl b (off + i * 36 + 1) rfl utok HTI.out (HRD.out W hW)
                simp only [Act.put, List.setIfInBounds_toArray, List.set_cons_succ, List.set_cons_zero]
                iterate 1 (apply rel_isS; (intro W hW hf; go_simp; first | exact ⟨StayS.refl _ _, rfl⟩ | rfl); simp only [Act.put, List.setIfInBounds_toArray, List.set_cons_succ, List.set_cons_zero])
                apply rel_isS
                · intro W hW hf
                  exact rel_callS hW rfl (by go_simp <;> first | rfl | exact ⟨rfl, rfl⟩ | exact ⟨rfl, rfl, rfl⟩) ((HSUM.out W hW).mono fun e W' ⟨h1, h2⟩ => ⟨_, h1, h2, rfl⟩)
                simp only [Act.put, List.setIfInBounds_toArray, List.set_cons_succ, List.set_cons_zero]
                apply rel_isS
                · intro W hW hf
                  exact rel_eql_dig rfl _ _ rfl utok (sha tok) HTI.out HSL.out rfl rfl _ HD.out
                simp only [Act.put, List.setIfInBounds_toArray, List.set_cons_succ, List.set_cons_zero]
                refine rel_endS ?_
                intro W hW hf
                try simp only [Act.put, List.setIfInBounds_toArray, List.set_cons_succ, List.set_cons_zero]
                have HB2 := Lib.hid (HB.out.trans (hW.mono HB.out.size))
                clear hW hf
                go_wp2_with fail
                go_roundw
                case rel => exact ⟨i + 1, by omega, by go_num, HNO2.out, HB2.out⟩
                case measure => simp [RowKit.intOf]; omega
            · obtain rfl : i = N := by omega
              have HE := HNONE.out HNO.out
              injection HE with HE1 HE3
              injection HE1 with HE1 HE2
              subst HE1 HE2 HE3
              go_wp2_with fail
              refine (HSR.out.who HX.out (none_who _ _)).mono ?_
              rintro e w6 ⟨rfl, hs⟩
              have HS6 := Lib.hid hs
              clear hs
              go_wp2_with fail
              go_ret
              exact ⟨rfl, HS6.out.below⟩
        · have j0 := hcT w5 HS5.out.below
          clear hcT
          go_wp2_with fail
          clear j0
          go_loopw [16] (fun iv wr => ∃ i : Nat, i ≤ N ∧ iv = .int .i64 i ∧ (∀ j, j < i → (bTn j).tok ≠ sha tok) ∧ Below w5.heap.size w5 wr) (fun iv _ => N - (RowKit.intOf iv).toNat)
          case atStart => exact ⟨0, by omega, rfl, fun j hj => absurd hj (by omega), Below.refl _ _⟩
          case round =>
            obtain ⟨i, hi, rfl, hno, hb⟩ := hrel
            have HNO := Lib.hid hno; have HB := Lib.hid hb
            have HSR := Lib.hid (HS5.out.ext hb)
            clear hno hb
            by_cases hlt : i < N
            · obtain ⟨b, off, hAl, hbl, hr⟩ := (HTS5.out.below HB.out) i (by rw [bTns_length]; exact hlt)
              rw [bTns_get hlt] at hr
              subst hAl
              have HTI : Hid ((bTn i).tok.length = 32) := Lib.hid (sha_length _)
              have HRD : Hid (∀ W, Below wr.heap.size wr W → W.rangeAt b (off + i * 36 + 1) (bcells (bTn i).tok)) := Lib.hid fun W hW j v hv => (hW.cell (p := ⟨b, _, none⟩) (Nat.lt_of_lt_of_le hbl HB.out.size)).trans (TnAt.tok hr HTI.out j v hv)
              have HSUM := Lib.hid fun W (hW : Below wr.heap.size wr W) => HSUMW.out W (HSR.out.below.trans (hW.mono HSR.out.below.size)) (HSR.out.kmem.ext hW)
              have HSL := Lib.hid (sha_length tok)
              clear hr
              have hq1 : (i : Int) < (N : Int) := by omega
              go_upto_region 19 with fail
              by_cases htk : (bTn i).tok = sha tok
              · have HD : Hid (decide ((bTn i).tok = sha tok) = true) := Lib.hid (decide_eq_true htk)
                have HYES := Lib.hid (HFOUND.out i hlt htk)
                clear htk
                generalize (bTn i).tok = utok at *
                apply wp_region_relS 8 [(Sum.inl _ : TT), (Sum.inl _ : TT), (Sum.inl _ : TT), (Sum.inl _ : TT), (Sum.inl _ : TT), (Sum.inl _ : TT), (Sum.inl _ : TT), (Sum.inl _ : TT)] (by kernel_rfl) (by kernel_rfl) rfl
                simp only [List.take_succ_cons, List.take_zero, List.drop_succ_cons, List.drop_zero]
                iterate 4 (apply rel_isS; (intro W hW hf; go_simp; first | exact ⟨StayS.refl _ _, rfl⟩ | rfl); simp only [Act.put, List.setIfInBounds_toArray, List.set_cons_succ, List.set_cons_zero])
                apply rel_isS
                · intro W hW hf
                  exact rel_load_dig rfl _ rfl b (off + i * 36 + 1) rfl utok HTI.out (HRD.out W hW)
                simp only [Act.put, List.setIfInBounds_toArray, List.set_cons_succ, List.set_cons_zero]
                iterate 1 (apply rel_isS; (intro W hW hf; go_simp; first | exact ⟨StayS.refl _ _, rfl⟩ | rfl); simp only [Act.put, List.setIfInBounds_toArray, List.set_cons_succ, List.set_cons_zero])
                apply rel_isS
                · intro W hW hf
                  exact rel_callS hW rfl (by go_simp <;> first | rfl | exact ⟨rfl, rfl⟩ | exact ⟨rfl, rfl, rfl⟩) ((HSUM.out W hW).mono fun e W' ⟨h1, h2⟩ => ⟨_, h1, h2, rfl⟩)
                simp only [Act.put, List.setIfInBounds_toArray, List.set_cons_succ, List.set_cons_zero]
                apply rel_isS
                · intro W hW hf
                  exact rel_eql_dig rfl _ _ rfl utok (sha tok) HTI.out HSL.out rfl rfl _ HD.out
                simp only [Act.put, List.setIfInBounds_toArray, List.set_cons_succ, List.set_cons_zero]
                refine rel_endS ?_
                intro W hW hf
                try simp only [Act.put, List.setIfInBounds_toArray, List.set_cons_succ, List.set_cons_zero]
                have HE := Lib.hid (HSR.out.ext hW)
                clear hW hf
                have HY := HYES.out
                subst HY
                go_wp2_with fail
                go_ret
                exact ⟨rfl, HE.out.below⟩
              · have HD : Hid (decide ((bTn i).tok = sha tok) = false) := Lib.hid (decide_eq_false htk)
                have HNO2 : Hid (∀ j, j < i + 1 → (bTn j).tok ≠ sha tok) := Lib.hid fun j hj => by
                  by_cases e : j = i
                  · rw [e]; exact htk
                  · exact HNO.out j (by omega)
                clear htk
                generalize (bTn i).tok = utok at HD HTI HRD
                apply wp_region_relS 8 [(Sum.inl _ : TT), (Sum.inl _ : TT), (Sum.inl _ : TT), (Sum.inl _ : TT), (Sum.inl _ : TT), (Sum.inl _ : TT), (Sum.inl _ : TT), (Sum.inl _ : TT)] (by kernel_rfl) (by kernel_rfl) rfl
                simp only [List.take_succ_cons, List.take_zero, List.drop_succ_cons, List.drop_zero]
                iterate 4 (apply rel_isS; (intro W hW hf; go_simp; first | exact ⟨StayS.refl _ _, rfl⟩ | rfl); simp only [Act.put, List.setIfInBounds_toArray, List.set_cons_succ, List.set_cons_zero])
                apply rel_isS
                · intro W hW hf
                  exact rel_load_dig rfl _ rfl b (off + i * 36 + 1) rfl utok HTI.out (HRD.out W hW)
                simp only [Act.put, List.setIfInBounds_toArray, List.set_cons_succ, List.set_cons_zero]
                iterate 1 (apply rel_isS; (intro W hW hf; go_simp; first | exact ⟨StayS.refl _ _, rfl⟩ | rfl); simp only [Act.put, List.setIfInBounds_toArray, List.set_cons_succ, List.set_cons_zero])
                apply rel_isS
                · intro W hW hf
                  exact rel_callS hW rfl (by go_simp <;> first | rfl | exact ⟨rfl, rfl⟩ | exact ⟨rfl, rfl, rfl⟩) ((HSUM.out W hW).mono fun e W' ⟨h1, h2⟩ => ⟨_, h1, h2, rfl⟩)
                simp only [Act.put, List.setIfInBounds_toArray, List.set_cons_succ, List.set_cons_zero]
                apply rel_isS
                · intro W hW hf
                  exact rel_eql_dig rfl _ _ rfl utok (sha tok) HTI.out HSL.out rfl rfl _ HD.out
                simp only [Act.put, List.setIfInBounds_toArray, List.set_cons_succ, List.set_cons_zero]
                refine rel_endS ?_
                intro W hW hf
                try simp only [Act.put, List.setIfInBounds_toArray, List.set_cons_succ, List.set_cons_zero]
                have HB2 := Lib.hid (HB.out.trans (hW.mono HB.out.size))
                clear hW hf
                go_wp2_with fail
                go_roundw
                case rel => exact ⟨i + 1, by omega, by go_num, HNO2.out, HB2.out⟩
                case measure => simp [RowKit.intOf]; omega
            · obtain rfl : i = N := by omega
              have HE := HNONE.out HNO.out
              injection HE with HE1 HE3
              injection HE1 with HE1 HE2
              subst HE1 HE2 HE3
              go_wp2_with fail
              refine (HSR.out.who HX.out (none_who _ _)).mono ?_
              rintro e w6 ⟨rfl, hs⟩
              have HS6 := Lib.hid hs
              clear hs
              go_wp2_with fail
              go_ret
              exact ⟨rfl, HS6.out.below⟩
set_option maxRecDepth 100000 in
set_option maxHeartbeats 4000000 in
theorem tenantbinds_walk (n x : Int) (tok : List UInt8) (A : Option Addr) (ct : Nat) (w : World) (hn : (Lit.int .i64 n).wf = true) (hx : (Lit.int .i64 x).wf = true) (hA : Bs w w.heap.size A tok) (_ : A = none → tok = []) (hk : KMem w) :
    Calls Tryd.prog 11 #[.int .i64 n, .int .i64 x, .slice A tok.length ct] w fun e w' => e = .returned (.bool true) ∧ Below w.heap.size w w' := by
  have hxi : inI x := by
    have := bounds_i64 hx
    exact this
  obtain ⟨nt, hnt⟩ : ∃ nt, nt = tok.length := ⟨_, rfl⟩
  rw [← hnt]
  by_cases hin : 1 ≤ n ∧ n ≤ 64 ∧ 0 ≤ x ∧ nt ≤ 200
  · obtain ⟨h1, h2, h3, h4⟩ := hin
    obtain ⟨N, rfl⟩ : ∃ N : Nat, n = N := ⟨n.toNat, by omega⟩
    exact tenantbinds_in N (by omega) (by omega) x hxi h3 tok A ct nt hnt h4 w hA hk
  · have HK := Lib.hid hk
    clear hn hx hA hk hxi hnt
    by_cases h1 : n < 1
    · skip
      go_enter Tryd.func11, Tryd.ntmps11
      go_wp2_with fail
      refine (awake_at w HK.out).mono ?_
      rintro e w1 ⟨rfl, hb⟩
      have HB1 := Lib.hid hb
      clear hb
      go_wp2_with fail
      go_ret
      exact ⟨rfl, HB1.out⟩
    by_cases h2 : 64 < n
    · skip
      go_enter Tryd.func11, Tryd.ntmps11
      go_wp2_with fail
      refine (awake_at w HK.out).mono ?_
      rintro e w1 ⟨rfl, hb⟩
      have HB1 := Lib.hid hb
      clear hb
      go_wp2_with fail
      go_ret
      exact ⟨rfl, HB1.out⟩
    by_cases h3 : x < 0
    · skip
      go_enter Tryd.func11, Tryd.ntmps11
      go_wp2_with fail
      refine (awake_at w HK.out).mono ?_
      rintro e w1 ⟨rfl, hb⟩
      have HB1 := Lib.hid hb
      clear hb
      go_wp2_with fail
      go_ret
      exact ⟨rfl, HB1.out⟩
    have h4 : 200 < nt := by omega
    go_enter Tryd.func11, Tryd.ntmps11
    go_wp2_with fail
    refine (awake_at w HK.out).mono ?_
    rintro e w1 ⟨rfl, hb⟩
    have HB1 := Lib.hid hb
    clear hb
    go_wp2_with fail
    go_ret
    exact ⟨rfl, HB1.out⟩
end Go.Proofs.YtkdkpnidiehdfaaDoor
end
