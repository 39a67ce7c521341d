import Derived.Test.YtkdkpnidiehdfaaDoorDh
import Derived.Test.YtkdkpnidiehdfaaDoorDb
import Derived.Laws.Tables
set_option linter.unusedSimpArgs false
set_option linter.unusedVariables false
namespace Go.Proofs.YtkdkpnidiehdfaaDoor
open Go.RowKit



theorem ownsRow_empty (w : World) (base : Nat) (e : TypeId) (hb : base ≤ w.heap.size) : (w.alloc (.cells #[] e)).ownsRow base e 1 (.slice (some ⟨w.heap.size, 0, none⟩) 0 0) 0 [] :=
  ⟨rfl, .inr ⟨w.heap.size, 0, #[], rfl, hb, heap_alloc_new _ _, Nat.le_refl _, by simp [maxLen], rfl, rfl⟩⟩

set_option maxRecDepth 100000 in
set_option maxHeartbeats 4000000 in
theorem sum_ref (l : List UInt8) (hl : l.length ≤ 100000000) (A : Option Addr) (cap : Nat) (hA0 : A = none → l = []) (w : World) (hA : Bs w w.heap.size A l) :
    Calls Tryd.prog 17 #[.slice A l.length cap] w fun e w' => e = .returned (dg (sha l)) ∧ Below w.heap.size w w' := by
  have HL := Lib.hid hl
  have HA0 := Lib.hid hA0
  have HA := Lib.hid hA
  clear hl hA0 hA
  go_enter Tryd.func17, Tryd.ntmps17
  go_upto_region 1 with (fail)
  generalize hz : #[Value.int IntKind.u8 0, _, _, _, _, _, _, _, _, _, _, _, _, _, _, _, _, _, _, _, _, _, _, _, _, _, _, _, _, _, _, _] = zs
  have hzs : zs.size = 32 := by rw [← hz]; rfl
  have Hzs := Lib.hid hzs
  clear hz hzs
  generalize hw0 : w.alloc (.cells zs 25) = w0
  have Hres : Hid (w0.heap[w.heap.size]? = some (.cells zs 25 (0, 0))) := Lib.hid (by rw [← hw0]; exact heap_alloc_new _ _)
  have HB0 : Hid (Below w.heap.size w w0) := Lib.hid (by rw [← hw0]; exact (Below.refl _ _).alloc (Nat.le_refl _) _)
  have HA1 : Hid (Bs w0 w0.heap.size A l) := Lib.hid ((HA.out.below HB0.out).more HB0.out.size)
  have Hsz : Hid (w0.heap.size = w.heap.size + 1) := Lib.hid (by rw [← hw0]; simp)
  generalize hr : w.heap.size = r
  rw [hr] at Hres HB0 Hsz
  have Hr := Lib.hid hr
  clear hr hw0 HA
  go_upto_region 3 with (first
    | (at_builtin; refine wpList_append_src E5 rfl (.tmp 9) (.tmp 10) rfl w0.heap.size _ 0 [] rfl (ownsRow_empty w0 _ _ (Nat.le_refl _)) w0.heap.size A (bcells l) l.length cap rfl (bcells_length l) ((HA1.out.rd).alloc0 _) (fun h => by rw [HA0.out h]; rfl) (bcells_one l) (by have := HL.out; omega) (by omega) w0 (Nat.le_refl _) ((Below.refl _ _).alloc (Nat.le_refl _) _) ?_
       intro v1 w1 h2 h3 h4 h5; clear h4 h5; have H2 := Lib.hid h2; have H3 := Lib.hid h3; clear h2 h3)
    | (at_builtin; refine wpList_append_one0 E5 rfl (.tmp 12) (.tmp 13) rfl w0.heap.size _ rfl v1 (0 + l.length) ([] ++ bcells l) rfl H2.out rfl (by have := HL.out; omega) (by omega) w0 (Nat.le_refl _) H3.out ?_
       intro v2 w2 h2 h3 h4 h5; clear h4 h5 H2 H3; have H2 := Lib.hid h2; have H3 := Lib.hid h3; clear h2 h3))
  have HM : Hid (w2.ownsRow w0.heap.size 5 1 v2 (l ++ [128]).length (bcells (l ++ [128]))) := Lib.hid (by
    have := H2.out
    rw [Nat.zero_add, List.nil_append] at this
    rw [bcells_app, List.length_append]; exact this)
  have HLm : Hid ((l ++ [128]).length ≤ 100000001) := Lib.hid (by have := HL.out; simp; omega)
  have Hsha : Hid (sha l = dbytes (blk St.init (padz (l ++ [128]) ++ eight (bitsOf l.length)) ((padz (l ++ [128])).length / 64 + 1))) := Lib.hid (by
    have e : (padded l 0).length / 64 = (padz (l ++ [128])).length / 64 + 1 := by
      have h := padz_length (l ++ [128])
      have h2 : (padded l 0).length = (padz (l ++ [128])).length + 8 := by simp [padded, eight, eightL_length]
      omega
    unfold sha; rw [e]; rfl)
  generalize l ++ [128] = m0 at HM HLm Hsha
  clear H2
  go_loopw [3] (fun v wr => ∃ n : Nat, m0.length ≤ n ∧ n ≤ m0.length + (120 - m0.length % 64) % 64 ∧ wr.ownsRow w0.heap.size 5 1 v n (bcells (m0 ++ List.replicate (n - m0.length) 0)) ∧ Below w0.heap.size w0 wr)
    (fun v _ => m0.length + (120 - m0.length % 64) % 64 - lenV v)
  case atStart => exact ⟨m0.length, Nat.le_refl _, by omega, by simpa using HM.out, H3.out⟩
  case round =>
    obtain ⟨n, hn1, hn2, hown, hb⟩ := hrel
    obtain ⟨A1, c1, rfl, _, _, _⟩ := own_rd hown
    have Hown := Lib.hid hown
    have Hb := Lib.hid hb
    clear hown hb
    by_cases hlt : n < m0.length + (120 - m0.length % 64) % 64
    · have hd : (((n : Int)) % 64 != 56) = true := by rw [bne_iff_ne]; omega
      have Hn1 := Lib.hid hn1
      have Hlt := Lib.hid hlt
      have hn : n ≤ 100000100 := by have := HLm.out; omega
      clear hn1 hn2 hlt
      go_wp2_with (at_builtin; refine wpList_append_one0 E5 rfl (.tmp 19) (.tmp 20) rfl w0.heap.size _ rfl _ n _ rfl Hown.out rfl (by omega) (by omega) w0 (Nat.le_refl _) Hb.out ?_; intro v' w' h2 h3 h4 h5; clear h4 h5; have H2 := Lib.hid h2; have H3 := Lib.hid h3; clear h2 h3)
      obtain ⟨A2, c2, rfl, _, _, _⟩ := own_rd H2.out
      go_roundw
      case rel => exact ⟨n + 1, by have := Hn1.out; omega, by have := Hlt.out; omega, by
        have h := H2.out
        rw [show n + 1 - m0.length = (n - m0.length) + 1 by have := Hn1.out; omega, List.replicate_succ', ← List.append_assoc, bcells_app]; exact h, H3.out⟩
      case measure => have := Hlt.out; simp only [lenV]; omega
    · obtain rfl : n = m0.length + (120 - m0.length % 64) % 64 := by omega
      have Hpz : Hid (wr.ownsRow w0.heap.size 5 1 (.slice A1 (padz m0).length c1) (padz m0).length (bcells (padz m0))) := Lib.hid (by
        have h := Hown.out
        rw [Nat.add_sub_cancel_left] at h
        have e : (padz m0).length = m0.length + (120 - m0.length % 64) % 64 := by simp [padz]
        rw [e]; exact h)
      rw [show m0.length + (120 - m0.length % 64) % 64 = (padz m0).length by simp [padz]]
      have Hpl : Hid ((padz m0).length ≤ 100000100) := Lib.hid (by have := HLm.out; have := padz_bound m0; omega)
      have hpm := padz_length m0
      have Hpm := Lib.hid hpm
      generalize padz m0 = pz at Hpz Hpl Hpm Hsha hpm
      clear Hown hn1 hn2 hlt HM HLm H3
      have hd : (((pz.length : Int)) % 64 != 56) = false := by rw [bne_eq_false_iff_eq]; omega
      clear hpm
      go_upto_region 6 with (fail)
      rw [u64_bits]
      refine (eight_any (bitsOf l.length) (bitsOf_lt _) wr).mono ?_
      rintro e w3 ⟨v3, rfl, hown3, hb3⟩
      obtain ⟨A3, c3, rfl, hrd3, hnil3, _⟩ := own_rd hown3
      have Hrd3 := Lib.hid hrd3
      have Hb3 := Lib.hid hb3
      have Hpz3 := Lib.hid (own_below Hpz.out hb3)
      have Hbb3 := Lib.hid (Hb.out.trans (hb3.mono Hb.out.size))
      clear hown3 hrd3 hb3
      generalize bitsOf l.length = N at Hrd3 Hsha
      go_upto_region 9 with (first
        | (at_builtin; refine wpList_append_src E5 rfl (.tmp 22) (.tmp 27) rfl w0.heap.size _ pz.length _ rfl Hpz3.out w3.heap.size A3 (bcells (eight N)) 8 c3 rfl rfl Hrd3.out hnil3 (bcells_one _) (by have := Hpl.out; omega) (by omega) w0 (Nat.le_refl _) Hbb3.out ?_
           intro v4 w4 h2 h3 h4 h5; clear h4 h5; have H2 := Lib.hid h2; have H3 := Lib.hid h3; clear h2 h3)
        | (go_at_call 54; refine (begin_ref _).mono ?_; rintro e w5 ⟨rfl, hb5⟩; have Hb5 := Lib.hid hb5; clear hb5)
        | (refine wpList_store_row (o := ⟨none, .store 31 (.tmp 4) (.tmp 29), _, _, _, _⟩) rfl _ _ _ rfl w5.heap.size St.init.cells rfl rfl _ _ (heap_alloc_new _ _) (by kernel_rfl) rfl (cells_one _) ?_
           generalize hw6 : (w5.alloc _).setRow w5.heap.size St.init.cells = w6
           have Hh6 : Hid (w6.heap[w5.heap.size]? = some (.cells St.init.cells 31 (0, 0))) := Lib.hid (by rw [← hw6]; exact setRow_heap _ _ _ _ _ _ (heap_alloc_new _ _))
           have Hb6 : Hid (Below w5.heap.size w5 w6) := Lib.hid (by rw [← hw6]; exact below_setRow ((Below.refl _ _).alloc (Nat.le_refl _) _) (Nat.le_refl _) _)
           have Hs6 : Hid (w6.heap.size = w5.heap.size + 1) := Lib.hid (by rw [← hw6]; simp)
           clear hw6)
        | (go_at_call 55; refine (table_ref _).mono ?_; rintro e w7 ⟨rfl, hb7⟩; have Hb7 := Lib.hid hb7; clear hb7)
        | (refine wpList_store_row (o := ⟨none, .store 101 (.tmp 5) (.tmp 30), _, _, _, _⟩) rfl _ _ _ rfl w7.heap.size (wcells kTab) rfl rfl _ _ (heap_alloc_new _ _) (by rw [kTab_size]; kernel_rfl) (by rw [kTab_size]; rfl) (wcells_one _) ?_
           generalize hw8 : (w7.alloc _).setRow w7.heap.size (wcells kTab) = w8
           have Hk8 : Hid (w8.heap[w7.heap.size]? = some (.cells (wcells kTab) 101 (0, 0))) := Lib.hid (by rw [← hw8]; exact setRow_heap _ _ _ _ _ _ (heap_alloc_new _ _))
           have Hb8 : Hid (Below w7.heap.size w7 w8) := Lib.hid (by rw [← hw8]; exact below_setRow ((Below.refl _ _).alloc (Nat.le_refl _) _) (Nat.le_refl _) _)
           have Hs8 : Hid (w8.heap.size = w7.heap.size + 1) := Lib.hid (by rw [← hw8]; simp)
           clear hw8))
      have hown4 := H2.out
      rw [← bcells_app] at hown4
      have Hpl8 : Hid ((pz ++ eight N).length = pz.length + 8) := Lib.hid (by simp [eight, eightL_length])
      obtain ⟨A4, c4, rfl, hrd4, hnil4, hc4⟩ := own_rd hown4
      obtain ⟨b4, off4, rfl, hb4, _⟩ := hrd4.bs 0 (by rw [Hpl8.out]; omega)
      have Hbs4 := Lib.hid hrd4.bs
      clear hown4 hrd4 hnil4 hc4 H2
      have h45 : w4.heap.size ≤ w5.heap.size := Hb5.out.size
      have h67 : w6.heap.size ≤ w7.heap.size := Hb7.out.size
      have hs6 := Hs6.out
      have Hh8 : Hid (w8.heap[w5.heap.size]? = some (.cells St.init.cells 31 (0, 0))) := Lib.hid (by
        rw [Hb8.out.block _ (by omega), Hb7.out.block _ (by omega)]; exact Hh6.out)
      have Hb48 : Hid (Below w4.heap.size w4 w8) := Lib.hid (((Hb5.out.trans (Hb6.out.mono h45)).trans (Hb7.out.mono (by omega))).trans (Hb8.out.mono (by omega)))
      have Hbs8 := Lib.hid (Hbs4.out.below Hb48.out)
      have Hw08 : Hid (Below w0.heap.size w0 w8) := Lib.hid (H3.out.trans (Hb48.out.mono H3.out.size))
      have Hk57 : Hid (w5.heap.size < w7.heap.size) := Lib.hid (by omega)
      have H45 := Lib.hid h45
      have Hhb : Hid (w0.heap.size ≤ w5.heap.size) := Lib.hid (Nat.le_trans H3.out.size h45)
      clear h45 h67 hs6 Hbs4 Hb48 Hh6 Hb5 Hb6 Hb7 Hb8 H3 Hs6 Hrd3 Hb3 Hpz3 Hbb3 Hpz Hb Hs8
      have Hpk : Hid (pz.length + 8 = 64 * (pz.length / 64 + 1)) := Lib.hid (by have := Hpm.out; omega)
      generalize pz.length / 64 + 1 = K at Hpk Hsha
      have Hpl9 : Hid ((pz ++ eight N).length = 64 * K) := Lib.hid (by rw [Hpl8.out, Hpk.out])
      rw [show pz.length + 8 = 64 * K from Hpk.out]
      have hK : 64 * K ≤ 100000108 := by have := Hpk.out; have := Hpl.out; omega
      generalize pz ++ eight N = pb at Hsha Hbs8 Hpl8 Hpl9
      generalize w5.heap.size = hb at Hh8 Hk57 H45 Hhb
      generalize w7.heap.size = kb at Hk8 Hk57
      clear Hpl8
      go_loopw [6] (fun i wr => ∃ k : Nat, k ≤ K ∧ i = .int .i64 ((64 * k : Nat) : Int) ∧ wr.heap[hb]? = some (.cells (blk St.init pb k).cells 31 (0, 0)) ∧ wr.heap[kb]? = some (.cells (wcells kTab) 101 (0, 0)) ∧ Below hb w8 wr) (fun i _ => 64 * K - (intOf i).toNat)
      case atStart => exact ⟨0, by omega, rfl, Hh8.out, Hk8.out, Below.refl _ _⟩
      case round =>
        obtain ⟨k, hk, rfl, hh, hkb, hbr⟩ := hrel
        have Hh := Lib.hid hh
        have Hkb := Lib.hid hkb
        have Hbr := Lib.hid hbr
        clear hh hkb hbr
        by_cases hlt : k < K
        · have hd : decide (((64 * k : Nat) : Int) < ((64 * K : Nat) : Int)) = true := by simp; omega
          have hd2 : ((64 * k : Nat) : Int) < ((64 * K : Nat) : Int) := by omega
          have hk1 : 64 * k + 64 ≤ 64 * K := by omega
          have Hblk : Hid (compress (blk St.init pb k) (fun j => pb.getD (64 * k + j) 0) = blk St.init pb (k + 1)) := Lib.hid rfl
          generalize blk St.init pb k = st at Hh Hblk
          have Hsz0 : Hid (∀ x : St, (Tryd.prog.info? 31).map (·.size) = some x.cells.size) := Lib.hid (fun x => by kernel_rfl)
          have Hlt := Lib.hid hlt
          clear hlt
          generalize hm : 64 * k = m at hd hd2 hk1 Hblk
          have Hm := Lib.hid hm
          clear hm
          have Hcell : Hid (∀ j, j < 64 → wr.cell? ⟨b4, off4 + (m + j), none⟩ = some (.int .u8 (pb.getD (m + j) 0).toNat)) := Lib.hid (fun j hj => by
            obtain ⟨b', off', e2, hb', hc⟩ := (Hbs8.out.below (Hbr.out.mono H45.out)) (m + j) (by rw [Hpl9.out]; omega)
            injection e2 with e2; injection e2 with e3 e4; subst e3 e4; exact hc)
          have Hb4r : Hid (b4 < wr.heap.size) := Lib.hid (by have := Hbr.out.size; have := lt_blk Hh.out; have := H45.out; omega)
          have HKm : Hid (64 * K ≤ 1000000000000) := Lib.hid (by omega)
          have Hk1 := Lib.hid hk1
          go_wp2_with (first
            | (refine wpList_load_row (o := ⟨some 37, .load 31 (.tmp 4), _, _, _, _⟩) rfl _ _ rfl hb rfl _ st.cells (0, 0) _ Hh.out Tryd.underlying31 rfl (Hsz0.out st) ?_)
            | (refine wpList_load_row (o := ⟨some 38, .load 101 (.tmp 5), _, _, _, _⟩) rfl _ _ rfl kb rfl _ (wcells kTab) (0, 0) _ Hkb.out Tryd.underlying101 rfl (by rw [kTab_size]; kernel_rfl) ?_)
            | (go_at_call 56; refine (block_ref st (fun j => pb.getD (m + j) 0) (64 * K) c4 m wr b4 off4 Hcell.out Hb4r.out Hk1.out HKm.out).mono ?_; rintro e w9 ⟨rfl, hb9⟩; have Hb9 := Lib.hid hb9; have Hh9 : Hid (w9.heap[hb]? = some (.cells st.cells 31 (0, 0))) := Lib.hid ((hb9.block hb (lt_blk Hh.out)).trans Hh.out); clear hb9)
            | (refine wpList_store_row (o := ⟨none, .store 31 (.tmp 4) (.tmp 41), _, _, _, _⟩) rfl _ _ _ rfl hb (compress st (fun j => pb.getD (m + j) 0)).cells rfl rfl 31 st.cells Hh9.out (Hsz0.out _) ((cells_size _).trans (cells_size _).symm) (cells_one _) ?_))
          go_roundw
          case rel => exact ⟨k + 1, by have := Hlt.out; omega, by have := Hm.out; go_num, (setRow_heap _ _ _ _ _ _ Hh9.out).trans (congrArg (fun x => some (Obj.cells (St.cells x) 31 (0, 0))) Hblk.out),
            by rw [setRow_other _ _ _ _ (by have := Hk57.out; omega), Hb9.out.block _ (lt_blk Hkb.out)]; exact Hkb.out, below_setRow (Hbr.out.trans (Hb9.out.mono (Nat.le_of_lt (lt_blk Hh.out)))) (Nat.le_refl _) _⟩
          case measure => have := Hlt.out; have := Hm.out; simp [intOf]; omega
        · obtain rfl : k = K := by omega
          have hd : decide (((64 * k : Nat) : Int) < ((64 * k : Nat) : Int)) = false := by simp
          have hh := Hh.out
          have Hfin : Hid (sha l = dbytes (blk St.init pb k)) := Hsha
          generalize blk St.init pb k = st at hh Hfin
          have Hst := Lib.hid hh
          have hlt := lt_blk hh
          have HW : Hid (Below w0.heap.size w0 wr) := Lib.hid (Hw08.out.trans (Hbr.out.mono Hhb.out))
          clear hh Hh Hsha hK
          generalize 64 * k = mk at hd
          go_upto_region 13 with (fail)
          generalize hw10 : wr.alloc (.cells _ 25) = w10
          have Ho : Hid (w10.heap[wr.heap.size]? = some (.cells (bcells (dlist st 0)).toArray 25 (0, 0))) := Lib.hid (by rw [← hw10]; exact heap_alloc_new _ _)
          have HB10 : Hid (Below wr.heap.size wr w10) := Lib.hid (by rw [← hw10]; exact (Below.refl _ _).alloc (Nat.le_refl _) _)
          generalize hob : wr.heap.size = ob at Ho HB10 hlt
          have Hob := Lib.hid hob
          clear hob hw10
          go_wp2
          go_loopw [8] (fun v wx => ∃ i : Nat, i ≤ 32 ∧ v = .int .i64 i ∧ wx.heap[ob]? = some (.cells (bcells (dlist st i)).toArray 25 (0, 0)) ∧ Below ob wr wx) (fun v _ => 32 - (intOf v).toNat)
          case atStart => exact ⟨0, by omega, rfl, Ho.out, HB10.out⟩
          case round =>
            obtain ⟨i, hi, rfl, ho, hbx⟩ := hrel
            have Hox := Lib.hid ho
            have Hbx := Lib.hid hbx
            clear ho hbx
            by_cases hl32 : i < 32
            · have hd32 : decide ((i : Int) < 32) = true := by simp; omega
              have c1' : wr.cell? ⟨hb, i / 4, none⟩ = some (.int .u32 (st.at (i / 4)).toNat) := by
                rw [cell_blk ((Hbx.out.block _ hlt).trans Hst.out), St.cells_at _ _ (by omega)]
              have c2' : wr.cell? ⟨ob, i, none⟩ = some (.int .u8 ((dlist st i).getD i 0).toNat) := by
                rw [cell_blk Hox.out]; have := dlist_length st i hi; simp [bcells, List.getD_eq_getElem?_getD, this, hl32]
              have c3' : wr.frozen? ⟨ob, i, none⟩ = false := free_blk Hox.out _
              have hdw := dby_walk st i
              have Hset := Lib.hid (dlist_set st i hl32)
              generalize st.at (i / 4) = sx at c1' hdw
              generalize dby st i = di at hdw Hset
              go_wp2
              go_roundw
              case rel => exact ⟨i + 1, by omega, by go_num, by rw [set_blk Hox.out, bcells_set, Hset.out], Hbx.out.setCell (Nat.le_refl _) _⟩
              case measure => simp [intOf]; omega
            · obtain rfl : i = 32 := by omega
              have Hcr : Hid (wr.heap[r]? = some (.cells zs 25 (0, 0))) := Lib.hid (by
                have h1 := Hsz.out
                have h2 := HW.out.size
                have h3 := Hob.out
                rw [Hbx.out.block r (by omega), HW.out.block r (by omega)]; exact Hres.out)
              have Hfo : Hid (wr.heap[ob]? = some (.cells (bcells (sha l)).toArray 25 (0, 0))) := Lib.hid (by rw [Hfin.out, ← dlist_last]; exact Hox.out)
              have Hsl : Hid ((bcells (sha l)).toArray.size = 32) := Lib.hid (by rw [Hfin.out]; simp [bcells, dbytes_length])
              have Hone : Hid ((bcells (sha l)).toArray.all (·.oneCell') = true) := Lib.hid (by
                rw [Array.all_eq_true_iff_forall_mem]; intro x hx; exact bcells_one _ x (by simpa using hx))
              have Hfb : Hid (Below r w wr) := Lib.hid (by
                have h1 := Hsz.out
                have h2 := HW.out.size
                have h3 := Hob.out
                exact HB0.out.trans ((HW.out.mono (by omega)).trans (Hbx.out.mono (by omega))))
              have Hdg : Hid (dg (sha l) = .agg (bcells (sha l)).toArray) := Lib.hid rfl
              generalize (bcells (sha l)).toArray = sl at Hfo Hsl Hone Hdg
              clear Hox Hbx Hst
              go_wp2_with (first
                | (refine wpList_load_row (o := ⟨some 58, .load 25 (.tmp 7), _, _, _, _⟩) rfl _ _ rfl ob rfl _ sl (0, 0) _ Hfo.out Tryd.underlying25 rfl (by rw [Hsl.out]; kernel_rfl) ?_)
                | (refine wpList_store_row (o := ⟨none, .store 25 (.tmp 2) (.tmp 58), _, _, _, _⟩) rfl _ _ _ rfl r sl rfl rfl _ zs Hcr.out (by rw [Hsl.out]; kernel_rfl) (by rw [Hsl.out, Hzs.out]) Hone.out ?_))
              refine bodyPost_ret (results_cell_row rfl _ _ r 25 sl (0, 0) _ rfl (setRow_heap _ _ _ sl _ (0, 0) Hcr.out) Tryd.underlying25 rfl (by rw [Hsl.out]; kernel_rfl)) rfl ⟨by rw [Hdg.out], ?_⟩
              rw [Hr.out]
              exact below_setRow Hfb.out (Nat.le_refl _) _
end Go.Proofs.YtkdkpnidiehdfaaDoor
