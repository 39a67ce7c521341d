/- several texts in one: disk.Crash., disk.Clone., the chapter's example of disks (printed by gen_known19.py)., two rows of the same texts; no disk of a size that may not be., a disk's calls, as the laws have them., the laws' calls on a disk: plays. -/
import Derived.Test.YtjbpgjfnccmdaaaMy
import Derived.Test.YtjbpgjfnccmdaaaMw
import Derived.Test.YtjbpgjfnccmdaaaMm
import Derived.Test.YtjbpgjfnccmdaaaMg1
import Derived.Test.YtjbpgjfnccmdaaaNb
import Derived.Test.YtjbpgjfnccmdaaaIz
import Derived.Test.YtjbpgjfnccmdaaaMs
import Derived.Test.YtjbpgjfnccmdaaaMt
import Derived.Test.YtjbpgjfnccmdaaaMu
import Derived.Test.YtjbpgjfnccmdaaaMv
import Derived.Test.YtjbpgjfnccmdaaaKg
section
set_option linter.unusedSimpArgs false
set_option linter.unusedVariables false
namespace Go.Proofs.Ytjbpgjfnccmdaaa
open Go.RowKit

theorem Raw.look {w : World} {p m n : Nat} {left : Int} {writes : Nat} {fs : Nl Fl} (h : Raw w p m n left writes fs) {k : Nm} {f : Fl} (hk : k.length ≤ 9223372036854775807) (hf : nget fs k = some f) : ∃ A cap, Bs w w.heap.size A f.b ∧ (A = none → f.b = []) ∧ f.b.length ≤ cap ∧ f.safe ≤ f.b.length ∧ f.b.length ≤ 67108864 ∧
    ∀ W, W.heap[m]? = w.heap[m]? → (Instr.lookup UM (.map (some m)) (.string (str k)) false).run Try.prog W = .ok (.agg #[.slice A f.b.length cap, .int .i64 f.safe, .bool f.kept]) W := by
  obtain ⟨vs, h1, h2⟩ := h.files
  obtain ⟨h3, h4⟩ := h2.look k
  rw [hf] at h4
  obtain ⟨A, cap, h5, h6, h7, h8, h9, h10⟩ := h4
  refine ⟨A, cap, h6, h10, h7, h8, h9, fun W hW => ?_⟩
  have := (h1.at hW).look (Maps.string_keyed Try.underlying9) Try.underlying42 (Try.zeroValue79 W) (keyStr k hk)
  rw [this]
  change (Result.ok ((nget vs k).getD zfile) W) = _
  rw [h5]
  rfl
theorem Raw.bw {w w' : World} {p m n : Nat} {left : Int} {writes : Nat} {fs : Nl Fl} (h : Raw w p m n left writes fs) {S : List Nat} (hb : Bw w w' S) (hs : p ∉ S ∧ m ∉ S ∧ ∀ k ∈ S, NoBytes w k) : Raw w' p m n left writes fs := by
  obtain ⟨vs, h1, h2⟩ := h.files
  refine ⟨(hb.block p h.lt hs.1).trans h.own, vs, h1.at (hb.block m h.ltm hs.2.1), h2.mono fun v f hv => ?_⟩
  obtain ⟨A, cap, h3, h4, h5⟩ := hv
  exact ⟨A, cap, h3, (hb.bs hs.2.2 (Nat.le_refl _) h4).more hb.size, h5⟩
/-- a row of names. -/
theorem names_cell {w : World} {An : Option Addr} {fs : Nl Fl} (hrd : Rd w w.heap.size An ((names fs).map encStr)) {j : Nat} {k : Nm} {f : Fl} (hj : fs[j]? = some (k, f)) : ∃ b o, An = some ⟨b, o, none⟩ ∧ b < w.heap.size ∧ w.cell? ⟨b, o + j, none⟩ = some (.string (str k)) := by
  obtain ⟨b, o, h1, h2, h3⟩ := hrd j (encStr k) (by unfold names; rw [List.getElem?_map, List.getElem?_map, hj]; rfl)
  exact ⟨b, o, h1, h2, h3⟩
theorem drop_head (t : List Int) (i : Nat) : (t.drop i).headD 0 = t.getD i 0 := by
  rw [List.headD_eq_head?_getD, List.head?_drop, List.getD_eq_getElem?_getD]
theorem crash_snoc {a : Nl Fl} {k : Nm} {f : Fl} {t u : List Int} (hu : u = dropL a t) : crashL (a ++ [(k, f)]) t = crashL a t ++ (if goneF (tornF f u) = true then [] else [(k, ⟨(tornF f u).b, (tornF f u).safe, true⟩)]) ∧ dropL (a ++ [(k, f)]) t = dropT f u := by
  subst hu
  rw [crashL_app, dropL_app]
  refine ⟨?_, rfl⟩
  congr 1
def CrashI (w2 : World) (p m sz : Nat) (left : Int) (writes : Nat) (fs : Nl Fl) (t : List Int) (n : Nat) (iv jv : Value) (wr : World) : Prop :=
  ∃ (j i : Nat), j ≤ n ∧ jv = .int .i64 j ∧ iv = .int .i64 i ∧ i ≤ j ∧ t.drop i = dropL (fs.take j) t ∧ Raw wr p m sz left writes (crashL (fs.take j) t ++ fs.drop j) ∧ Bw w2 wr [m]
set_option maxRecDepth 100000 in
set_option maxHeartbeats 8000000 in
theorem crash_at {w : World} {p m : Nat} {d : Dk} (h : DiskAt w p m d) (hks : ∀ q ∈ d.fs, q.1.length ≤ 9223372036854775807) (t : List Int) (tn : Nat) (htn : tn = t.length) (hz : tn ≤ 4611686018427387904) (T : Option Addr) (tc : Nat) (hT : Zs w w.heap.size T t) :
    Calls Try.prog 28 #[.pointer (some ⟨p, 0, none⟩), .slice T tn tc] w fun e w' => e = .returned (.int .i64 0) ∧ DiskAt w' p m (d.crash t) ∧ Dw w w' p m := by
  have H := Lib.hid h
  have HT := Lib.hid hT; have HTN := Lib.hid htn
  have HKS := Lib.hid hks
  clear h hT htn hks
  go_enter Try.func28, Try.ntmps28
  go_wp2_with fail
  refine (none_at H.out).mono ?_
  rintro e w1 ⟨rfl, rfl⟩
  go_wp2_with fail
  refine (names_at H.out).mono ?_
  rintro e w2 ⟨v, rfl, ho, hb2⟩
  obtain ⟨An, cn, rfl, hrd, _, _⟩ := own_rd ho
  have H2 := Lib.hid (H.out.below hb2)
  have HB2 := Lib.hid hb2
  have HRD := Lib.hid hrd
  have HT2 := Lib.hid ((HT.out.below hb2).more hb2.size)
  have hct := H2.out.ok.count
  have HN : Hid (d.fs.length = d.fs.length) := Lib.hid rfl
  generalize hn : d.fs.length = n at *
  have HNN := Lib.hid hn
  clear ho hb2 hrd hn HN
  go_wp2_with fail
  go_loopw [5, 7, 8, 9, 10, 16] (fun iv _ _ _ _ jv wr => CrashI w2 p m d.size d.left d.writes d.fs t n iv jv wr) (fun _ _ _ _ _ jv _ => n - (intOf jv).toNat)
  case atStart => exact ⟨0, 0, Nat.zero_le _, rfl, rfl, Nat.le_refl _, rfl, by rw [List.take_zero]; exact H2.out.raw, .refl _ _⟩
  case round =>
    obtain ⟨j, i, hj, rfl, rfl, hij, hdr, hraw, hbw⟩ := hrel
    have HDR := Lib.hid hdr; have HRW := Lib.hid hraw; have HBW := Lib.hid hbw
    clear hdr hraw hbw
    by_cases hlt : j < n
    · obtain ⟨⟨k, f⟩, hkf⟩ : ∃ q, d.fs[j]? = some q := ⟨_, List.getElem?_eq_getElem (by rw [HNN.out]; exact hlt)⟩
      have hdrop : d.fs.drop j = (k, f) :: d.fs.drop (j + 1) := by
        rw [List.drop_eq_getElem_cons (by rw [HNN.out]; exact hlt)]
        rw [List.getElem?_eq_getElem (by rw [HNN.out]; exact hlt)] at hkf
        injection hkf with hkf
        rw [hkf]
      have htake : d.fs.take (j + 1) = d.fs.take j ++ [(k, f)] := by
        rw [List.take_add_one, hkf]; rfl
      have hris : Rising (crashL (d.fs.take j) t ++ (k, f) :: d.fs.drop (j + 1)) := by
        rw [← hdrop]
        exact crash_rising t (by rw [List.take_append_drop]; exact H2.out.ok.rising)
      have hraw := HRW.out
      rw [hdrop] at hraw
      have hkl : k.length ≤ 9223372036854775807 := HKS.out (k, f) (List.mem_of_getElem? hkf)
      obtain ⟨A, cap, hbs, hA0, hcap, hsafe, hlen, hlook⟩ := hraw.look hkl (nget_mid hris)
      have HR := Lib.hid hraw; have HBS := Lib.hid hbs; have HA0 := Lib.hid hA0
      have HRIS := Lib.hid hris; have HTAKE := Lib.hid htake
      obtain ⟨bn, on, rfl, hbn, hnc⟩ := names_cell HRD.out hkf
      have hnc2 := HBW.out.cell hnc (by simpa using H2.out.raw.no_map hnc)
      have hp1 := cell_blk hraw.own 1
      simp only [List.getElem?_toArray, List.getElem?_cons_succ, List.getElem?_cons_zero] at hp1
      have hl1 := hlook wr rfl
      have hcl : (crashL (d.fs.take j) t ++ (k, f) :: d.fs.drop (j + 1)).length ≤ 1000000 := by
        have h1 := (crashL_total (d.fs.take j) t (fun q hq => H2.out.ok.safe q (List.mem_of_mem_take hq))).2.1
        have h2 := HNN.out
        rw [List.length_append, List.length_cons, List.length_drop]
        rw [List.length_take] at h1
        omega
      have HCL := Lib.hid hcl
      have hwr := wi64 ((f.b.length : Int) - f.safe) (by omega) (by omega)
      clear hraw hbs hA0 hris htake hdrop hnc hkf hlook hcl
      by_cases hlo : f.safe < f.b.length
      · have hlo2 : (0 : Int) < (f.b.length : Int) - f.safe := by omega
        have hkl2 := keepOf_le (t.drop i) (f.b.length - f.safe)
        have HTF : Hid (tornF f (t.drop i) = ⟨f.b.take (f.safe + keepOf (t.drop i) (f.b.length - f.safe)), f.safe + keepOf (t.drop i) (f.b.length - f.safe), f.kept⟩) := Lib.hid (by unfold tornF; rw [if_pos hlo])
        have HDI : Hid (t.drop (i + 1) = dropT f (t.drop i)) := Lib.hid (by unfold dropT; rw [if_pos hlo, List.tail_drop])
        have hbl1 : (f.b.take (f.safe + keepOf (t.drop i) (f.b.length - f.safe))).length = f.safe + keepOf (t.drop i) (f.b.length - f.safe) := by rw [List.length_take]; omega
        have HBBL := Lib.hid hbl1
        have HBB := Lib.hid (HBS.out.take (f.safe + keepOf (t.drop i) (f.b.length - f.safe)))
        have HBN : Hid (A = none → f.b.take (f.safe + keepOf (t.drop i) (f.b.length - f.safe)) = []) := Lib.hid (fun h => by rw [HA0.out h]; simp)
        have HSZ : Hid (f.safe + keepOf (t.drop i) (f.b.length - f.safe) ≤ f.safe + keepOf (t.drop i) (f.b.length - f.safe) ∧ f.safe + keepOf (t.drop i) (f.b.length - f.safe) ≤ f.safe + keepOf (t.drop i) (f.b.length - f.safe) ∧ f.safe + keepOf (t.drop i) (f.b.length - f.safe) ≤ 67108864) := Lib.hid ⟨Nat.le_refl _, Nat.le_refl _, by omega⟩
        by_cases hti : i < tn
        · have hti2 : (i : Int) < tn := by omega
          obtain ⟨bt, ot, rfl, hbt, htc⟩ := HT2.out i (by rw [← HTN.out]; exact hti)
          have htc2 := HBW.out.cell htc (by simpa using H2.out.raw.no_map htc)
          have htc3 : ∀ o, (wr.alloc o).cell? ⟨bt, ot + i, none⟩ = some (.int .i64 (t.getD i 0)) := fun o => ((below_alloc wr o).cell (p := ⟨bt, ot + i, none⟩) (cell_lt htc2)).trans htc2
          have hkp : max 0 (min (t.getD i 0) ((f.b.length : Int) - f.safe)) = (keepOf (t.drop i) (f.b.length - f.safe) : Nat) := by unfold keepOf; rw [drop_head]; omega
          generalize keepOf (t.drop i) (f.b.length - f.safe) = kp at *
          generalize t.getD i 0 = z at *
          have hwr2 := wi64 ((f.safe : Int) + kp) (by omega) (by omega)
          clear htc hbl1
          go_upto_region 16 with (fail)
          generalize f.b.take (f.safe + kp) = bb at *
          have hcast : (f.safe : Int) + kp = ((f.safe + kp : Nat) : Int) := by omega
          simp only [hcast]
          generalize f.safe + kp = sf at *
          have hp2 : ∀ o, (wr.alloc o).cell? ⟨p, 1, none⟩ = some (.map (some m)) := fun o => ((below_alloc wr o).cell (p := ⟨p, 1, none⟩) (cell_lt hp1)).trans hp1
          cases hkk : f.kept with
          | true =>
            rw [hkk] at HTF
            have hng : goneF (tornF f (t.drop i)) = false := by rw [HTF.out]; unfold goneF; first | (simp [hkk, HBBL.out, hl0]; done) | (simp [hkk]; done)
            have hcs := crash_snoc (a := d.fs.take j) (k := k) (f := f) HDR.out
            rw [hng, if_neg (by decide), HTF.out] at hcs
            go_upto_region 19 with (fail)
            obtain ⟨hfb, hbl⟩ := boxes1 wr (.cells #[.slice A sf sf, .int .i64 sf, .bool true] 79)
            have HF5 := Lib.hid hfb; have HB5 := Lib.hid hbl
            have HR5 := Lib.hid (HR.out.below hbl)
            have HV5 := Lib.hid (show FileV _ (.agg #[.slice A sf sf, .int .i64 sf, .bool true]) ⟨bb, sf, true⟩ from ⟨A, sf, by rw [HBBL.out], (HBB.out.below hbl).more hbl.size, by rw [HBBL.out]; exact HSZ.out.1, by rw [HBBL.out]; exact HSZ.out.2.1, by rw [HBBL.out]; exact HSZ.out.2.2, HBN.out⟩)
            clear hfb hbl
            generalize wr.alloc (.cells #[.slice A sf sf, .int .i64 sf, .bool true] 79) = w5 at *
            have HC5 : Hid (∀ W, Below w5.heap.size w5 W → W.cell? ⟨p, 1, none⟩ = some (.map (some m)) ∧ W.cell? ⟨wr.heap.size, 0, none⟩ = some (.slice A sf sf) ∧ W.cell? ⟨wr.heap.size, 1, none⟩ = some (.int .i64 sf) ∧ W.cell? ⟨wr.heap.size, 2, none⟩ = some (.bool true)) := Lib.hid fun W h => by
              have a1 := cell_blk ((h.block _ (lt_blk HF5.out)).trans HF5.out)
              have a2 := cell_blk ((h.block _ HR5.out.lt).trans HR5.out.own) 1
              exact ⟨a2, a1 0, a1 1, a1 2⟩
            have HCS := Lib.hid hcs
            clear hcs hng
            apply wp_region_relH (H := []) 6 [(Sum.inl _ : TT), (Sum.inl _ : TT), (Sum.inl _ : TT), (Sum.inl _ : TT), (Sum.inl _ : TT), (Sum.inl _ : TT)] (by kernel_rfl) (by kernel_rfl) (fun _ _ _ _ _ h => h) rfl
            simp only [List.take_succ_cons, List.take_zero, List.drop_succ_cons, List.drop_zero]
            iterate 6 (apply rel_isS; (intro W hW hf; obtain ⟨x1, x2, x3, x4⟩ := HC5.out W hW; go_simp; first | exact ⟨StayS.refl _ _, rfl⟩ | rfl); simp only [Act.put, List.setIfInBounds_toArray, List.set_cons_succ, List.set_cons_zero])
            refine rel_endS ?_
            intro W hW hf
            try simp only [Act.put, List.setIfInBounds_toArray, List.set_cons_succ, List.set_cons_zero]
            have HR6 := Lib.hid (HR5.out.below hW)
            have HV6 := Lib.hid (HV5.out.below hW)
            have HW6 := Lib.hid (HB5.out.trans (hW.mono HB5.out.size))
            clear hW hf
            go_wp2_with (at_mapUpdate; refine wpList_layD HR6.out HCL.out k hkl _ _ HV6.out rfl _ _ _ rfl rfl rfl rfl ?_; intro w7 h7 h8; have H7 := Lib.hid h7; have H8 := Lib.hid h8; clear h7 h8)
            go_roundw
            case rel =>
              refine ⟨j + 1, i + 1, by omega, by go_num, by go_num, by omega, ?_, ?_, ?_⟩
              · rw [HTAKE.out, HCS.out.2]; exact HDI.out
              · rw [HTAKE.out, HCS.out.1, List.append_assoc]
                have h9 := H7.out
                rw [nput_mid HRIS.out] at h9
                exact h9
              · exact (HBW.out.trans (.of_below HW6.out)).trans ⟨H8.out.os, H8.out.tape, H8.out.output, H8.out.size, fun x hx hm => H8.out.block x hx (by simpa using hm)⟩
            case measure => simp [intOf]; omega
          | false =>
            rw [hkk] at HTF
            by_cases hl0 : sf = 0
            · subst hl0
              have hg : goneF (tornF f (t.drop i)) = true := by rw [HTF.out]; unfold goneF; simp [hkk, HBBL.out]
              have hcs := crash_snoc (a := d.fs.take j) (k := k) (f := f) HDR.out
              rw [hg, if_pos rfl, List.append_nil] at hcs
              have hbl := below_alloc wr (.cells #[.slice A 0 0, .int .i64 0, .bool false] 79)
              obtain ⟨w7, hrun, h7, h8⟩ := (HR.out.below hbl).drop k hkl 0
              have H7 := Lib.hid h7; have H8 := Lib.hid h8; have HW6 := Lib.hid hbl; have HCS := Lib.hid hcs
              clear h7 h8 hbl hcs hg
              go_wp2_with fail
              go_roundw
              case rel =>
                refine ⟨j + 1, i + 1, by omega, by go_num, by go_num, by omega, ?_, ?_, ?_⟩
                · rw [HTAKE.out, HCS.out.2]; exact HDI.out
                · rw [HTAKE.out, HCS.out.1]
                  have h9 := H7.out
                  rw [ndel_mid HRIS.out] at h9
                  exact h9
                · exact (HBW.out.trans (.of_below HW6.out)).trans ⟨H8.out.os, H8.out.tape, H8.out.output, H8.out.size, fun x hx hm => H8.out.block x hx (by simpa using hm)⟩
              case measure => simp [intOf]; omega
            · have hl1 : ((sf : Int) == 0) = false := by simpa using hl0
              have hng : goneF (tornF f (t.drop i)) = false := by rw [HTF.out]; unfold goneF; first | (simp [hkk, HBBL.out, hl0]; done) | (simp [hkk]; done)
              have hcs := crash_snoc (a := d.fs.take j) (k := k) (f := f) HDR.out
              rw [hng, if_neg (by decide), HTF.out] at hcs
              go_upto_region 19 with (fail)
              obtain ⟨hfb, hbl⟩ := boxes1 wr (.cells #[.slice A sf sf, .int .i64 sf, .bool true] 79)
              have HF5 := Lib.hid hfb; have HB5 := Lib.hid hbl
              have HR5 := Lib.hid (HR.out.below hbl)
              have HV5 := Lib.hid (show FileV _ (.agg #[.slice A sf sf, .int .i64 sf, .bool true]) ⟨bb, sf, true⟩ from ⟨A, sf, by rw [HBBL.out], (HBB.out.below hbl).more hbl.size, by rw [HBBL.out]; exact HSZ.out.1, by rw [HBBL.out]; exact HSZ.out.2.1, by rw [HBBL.out]; exact HSZ.out.2.2, HBN.out⟩)
              clear hfb hbl
              generalize wr.alloc (.cells #[.slice A sf sf, .int .i64 sf, .bool true] 79) = w5 at *
              have HC5 : Hid (∀ W, Below w5.heap.size w5 W → W.cell? ⟨p, 1, none⟩ = some (.map (some m)) ∧ W.cell? ⟨wr.heap.size, 0, none⟩ = some (.slice A sf sf) ∧ W.cell? ⟨wr.heap.size, 1, none⟩ = some (.int .i64 sf) ∧ W.cell? ⟨wr.heap.size, 2, none⟩ = some (.bool true)) := Lib.hid fun W h => by
                have a1 := cell_blk ((h.block _ (lt_blk HF5.out)).trans HF5.out)
                have a2 := cell_blk ((h.block _ HR5.out.lt).trans HR5.out.own) 1
                exact ⟨a2, a1 0, a1 1, a1 2⟩
              have HCS := Lib.hid hcs
              clear hcs hng
              apply wp_region_relH (H := []) 6 [(Sum.inl _ : TT), (Sum.inl _ : TT), (Sum.inl _ : TT), (Sum.inl _ : TT), (Sum.inl _ : TT), (Sum.inl _ : TT)] (by kernel_rfl) (by kernel_rfl) (fun _ _ _ _ _ h => h) rfl
              simp only [List.take_succ_cons, List.take_zero, List.drop_succ_cons, List.drop_zero]
              iterate 6 (apply rel_isS; (intro W hW hf; obtain ⟨x1, x2, x3, x4⟩ := HC5.out W hW; go_simp; first | exact ⟨StayS.refl _ _, rfl⟩ | rfl); simp only [Act.put, List.setIfInBounds_toArray, List.set_cons_succ, List.set_cons_zero])
              refine rel_endS ?_
              intro W hW hf
              try simp only [Act.put, List.setIfInBounds_toArray, List.set_cons_succ, List.set_cons_zero]
              have HR6 := Lib.hid (HR5.out.below hW)
              have HV6 := Lib.hid (HV5.out.below hW)
              have HW6 := Lib.hid (HB5.out.trans (hW.mono HB5.out.size))
              clear hW hf
              go_wp2_with (at_mapUpdate; refine wpList_layD HR6.out HCL.out k hkl _ _ HV6.out rfl _ _ _ rfl rfl rfl rfl ?_; intro w7 h7 h8; have H7 := Lib.hid h7; have H8 := Lib.hid h8; clear h7 h8)
              go_roundw
              case rel =>
                refine ⟨j + 1, i + 1, by omega, by go_num, by go_num, by omega, ?_, ?_, ?_⟩
                · rw [HTAKE.out, HCS.out.2]; exact HDI.out
                · rw [HTAKE.out, HCS.out.1, List.append_assoc]
                  have h9 := H7.out
                  rw [nput_mid HRIS.out] at h9
                  exact h9
                · exact (HBW.out.trans (.of_below HW6.out)).trans ⟨H8.out.os, H8.out.tape, H8.out.output, H8.out.size, fun x hx hm => H8.out.block x hx (by simpa using hm)⟩
              case measure => simp [intOf]; omega
        · have hti2 : ¬ (i : Int) < tn := by omega
          have hkp : keepOf (t.drop i) (f.b.length - f.safe) = 0 := by unfold keepOf; rw [drop_head, List.getD_eq_getElem?_getD, List.getElem?_eq_none (by rw [← HTN.out]; omega)]; simp only [Option.getD_none]; omega
          rw [hkp] at HTF HBBL HBB HBN HSZ
          have hkq : f.safe + 0 = f.safe := rfl
          rw [hkq] at HTF HBBL HBB HBN HSZ
          have hwr2 := wi64 ((f.safe : Int) + 0) (by omega) (by omega)
          clear hbl1 hkl2
          go_upto_region 16 with (fail)
          generalize f.b.take f.safe = bb at *
          try simp only [Int.add_zero, Nat.add_zero]
          generalize f.safe = sf at *
          have hp2 : ∀ o, (wr.alloc o).cell? ⟨p, 1, none⟩ = some (.map (some m)) := fun o => ((below_alloc wr o).cell (p := ⟨p, 1, none⟩) (cell_lt hp1)).trans hp1
          cases hkk : f.kept with
          | true =>
            rw [hkk] at HTF
            have hng : goneF (tornF f (t.drop i)) = false := by rw [HTF.out]; unfold goneF; first | (simp [hkk, HBBL.out, hl0]; done) | (simp [hkk]; done)
            have hcs := crash_snoc (a := d.fs.take j) (k := k) (f := f) HDR.out
            rw [hng, if_neg (by decide), HTF.out] at hcs
            go_upto_region 19 with (fail)
            obtain ⟨hfb, hbl⟩ := boxes1 wr (.cells #[.slice A sf sf, .int .i64 sf, .bool true] 79)
            have HF5 := Lib.hid hfb; have HB5 := Lib.hid hbl
            have HR5 := Lib.hid (HR.out.below hbl)
            have HV5 := Lib.hid (show FileV _ (.agg #[.slice A sf sf, .int .i64 sf, .bool true]) ⟨bb, sf, true⟩ from ⟨A, sf, by rw [HBBL.out], (HBB.out.below hbl).more hbl.size, by rw [HBBL.out]; exact HSZ.out.1, by rw [HBBL.out]; exact HSZ.out.2.1, by rw [HBBL.out]; exact HSZ.out.2.2, HBN.out⟩)
            clear hfb hbl
            generalize wr.alloc (.cells #[.slice A sf sf, .int .i64 sf, .bool true] 79) = w5 at *
            have HC5 : Hid (∀ W, Below w5.heap.size w5 W → W.cell? ⟨p, 1, none⟩ = some (.map (some m)) ∧ W.cell? ⟨wr.heap.size, 0, none⟩ = some (.slice A sf sf) ∧ W.cell? ⟨wr.heap.size, 1, none⟩ = some (.int .i64 sf) ∧ W.cell? ⟨wr.heap.size, 2, none⟩ = some (.bool true)) := Lib.hid fun W h => by
              have a1 := cell_blk ((h.block _ (lt_blk HF5.out)).trans HF5.out)
              have a2 := cell_blk ((h.block _ HR5.out.lt).trans HR5.out.own) 1
              exact ⟨a2, a1 0, a1 1, a1 2⟩
            have HCS := Lib.hid hcs
            clear hcs hng
            apply wp_region_relH (H := []) 6 [(Sum.inl _ : TT), (Sum.inl _ : TT), (Sum.inl _ : TT), (Sum.inl _ : TT), (Sum.inl _ : TT), (Sum.inl _ : TT)] (by kernel_rfl) (by kernel_rfl) (fun _ _ _ _ _ h => h) rfl
            simp only [List.take_succ_cons, List.take_zero, List.drop_succ_cons, List.drop_zero]
            iterate 6 (apply rel_isS; (intro W hW hf; obtain ⟨x1, x2, x3, x4⟩ := HC5.out W hW; go_simp; first | exact ⟨StayS.refl _ _, rfl⟩ | rfl); simp only [Act.put, List.setIfInBounds_toArray, List.set_cons_succ, List.set_cons_zero])
            refine rel_endS ?_
            intro W hW hf
            try simp only [Act.put, List.setIfInBounds_toArray, List.set_cons_succ, List.set_cons_zero]
            have HR6 := Lib.hid (HR5.out.below hW)
            have HV6 := Lib.hid (HV5.out.below hW)
            have HW6 := Lib.hid (HB5.out.trans (hW.mono HB5.out.size))
            clear hW hf
            go_wp2_with (at_mapUpdate; refine wpList_layD HR6.out HCL.out k hkl _ _ HV6.out rfl _ _ _ rfl rfl rfl rfl ?_; intro w7 h7 h8; have H7 := Lib.hid h7; have H8 := Lib.hid h8; clear h7 h8)
            go_roundw
            case rel =>
              refine ⟨j + 1, i + 1, by omega, by go_num, by go_num, by omega, ?_, ?_, ?_⟩
              · rw [HTAKE.out, HCS.out.2]; exact HDI.out
              · rw [HTAKE.out, HCS.out.1, List.append_assoc]
                have h9 := H7.out
                rw [nput_mid HRIS.out] at h9
                exact h9
              · exact (HBW.out.trans (.of_below HW6.out)).trans ⟨H8.out.os, H8.out.tape, H8.out.output, H8.out.size, fun x hx hm => H8.out.block x hx (by simpa using hm)⟩
            case measure => simp [intOf]; omega
          | false =>
            rw [hkk] at HTF
            by_cases hl0 : sf = 0
            · subst hl0
              have hg : goneF (tornF f (t.drop i)) = true := by rw [HTF.out]; unfold goneF; simp [hkk, HBBL.out]
              have hcs := crash_snoc (a := d.fs.take j) (k := k) (f := f) HDR.out
              rw [hg, if_pos rfl, List.append_nil] at hcs
              have hbl := below_alloc wr (.cells #[.slice A 0 0, .int .i64 0, .bool false] 79)
              obtain ⟨w7, hrun, h7, h8⟩ := (HR.out.below hbl).drop k hkl 0
              have H7 := Lib.hid h7; have H8 := Lib.hid h8; have HW6 := Lib.hid hbl; have HCS := Lib.hid hcs
              clear h7 h8 hbl hcs hg
              go_wp2_with fail
              go_roundw
              case rel =>
                refine ⟨j + 1, i + 1, by omega, by go_num, by go_num, by omega, ?_, ?_, ?_⟩
                · rw [HTAKE.out, HCS.out.2]; exact HDI.out
                · rw [HTAKE.out, HCS.out.1]
                  have h9 := H7.out
                  rw [ndel_mid HRIS.out] at h9
                  exact h9
                · exact (HBW.out.trans (.of_below HW6.out)).trans ⟨H8.out.os, H8.out.tape, H8.out.output, H8.out.size, fun x hx hm => H8.out.block x hx (by simpa using hm)⟩
              case measure => simp [intOf]; omega
            · have hl1 : ((sf : Int) == 0) = false := by simpa using hl0
              have hng : goneF (tornF f (t.drop i)) = false := by rw [HTF.out]; unfold goneF; first | (simp [hkk, HBBL.out, hl0]; done) | (simp [hkk]; done)
              have hcs := crash_snoc (a := d.fs.take j) (k := k) (f := f) HDR.out
              rw [hng, if_neg (by decide), HTF.out] at hcs
              go_upto_region 19 with (fail)
              obtain ⟨hfb, hbl⟩ := boxes1 wr (.cells #[.slice A sf sf, .int .i64 sf, .bool true] 79)
              have HF5 := Lib.hid hfb; have HB5 := Lib.hid hbl
              have HR5 := Lib.hid (HR.out.below hbl)
              have HV5 := Lib.hid (show FileV _ (.agg #[.slice A sf sf, .int .i64 sf, .bool true]) ⟨bb, sf, true⟩ from ⟨A, sf, by rw [HBBL.out], (HBB.out.below hbl).more hbl.size, by rw [HBBL.out]; exact HSZ.out.1, by rw [HBBL.out]; exact HSZ.out.2.1, by rw [HBBL.out]; exact HSZ.out.2.2, HBN.out⟩)
              clear hfb hbl
              generalize wr.alloc (.cells #[.slice A sf sf, .int .i64 sf, .bool true] 79) = w5 at *
              have HC5 : Hid (∀ W, Below w5.heap.size w5 W → W.cell? ⟨p, 1, none⟩ = some (.map (some m)) ∧ W.cell? ⟨wr.heap.size, 0, none⟩ = some (.slice A sf sf) ∧ W.cell? ⟨wr.heap.size, 1, none⟩ = some (.int .i64 sf) ∧ W.cell? ⟨wr.heap.size, 2, none⟩ = some (.bool true)) := Lib.hid fun W h => by
                have a1 := cell_blk ((h.block _ (lt_blk HF5.out)).trans HF5.out)
                have a2 := cell_blk ((h.block _ HR5.out.lt).trans HR5.out.own) 1
                exact ⟨a2, a1 0, a1 1, a1 2⟩
              have HCS := Lib.hid hcs
              clear hcs hng
              apply wp_region_relH (H := []) 6 [(Sum.inl _ : TT), (Sum.inl _ : TT), (Sum.inl _ : TT), (Sum.inl _ : TT), (Sum.inl _ : TT), (Sum.inl _ : TT)] (by kernel_rfl) (by kernel_rfl) (fun _ _ _ _ _ h => h) rfl
              simp only [List.take_succ_cons, List.take_zero, List.drop_succ_cons, List.drop_zero]
              iterate 6 (apply rel_isS; (intro W hW hf; obtain ⟨x1, x2, x3, x4⟩ := HC5.out W hW; go_simp; first | exact ⟨StayS.refl _ _, rfl⟩ | rfl); simp only [Act.put, List.setIfInBounds_toArray, List.set_cons_succ, List.set_cons_zero])
              refine rel_endS ?_
              intro W hW hf
              try simp only [Act.put, List.setIfInBounds_toArray, List.set_cons_succ, List.set_cons_zero]
              have HR6 := Lib.hid (HR5.out.below hW)
              have HV6 := Lib.hid (HV5.out.below hW)
              have HW6 := Lib.hid (HB5.out.trans (hW.mono HB5.out.size))
              clear hW hf
              go_wp2_with (at_mapUpdate; refine wpList_layD HR6.out HCL.out k hkl _ _ HV6.out rfl _ _ _ rfl rfl rfl rfl ?_; intro w7 h7 h8; have H7 := Lib.hid h7; have H8 := Lib.hid h8; clear h7 h8)
              go_roundw
              case rel =>
                refine ⟨j + 1, i + 1, by omega, by go_num, by go_num, by omega, ?_, ?_, ?_⟩
                · rw [HTAKE.out, HCS.out.2]; exact HDI.out
                · rw [HTAKE.out, HCS.out.1, List.append_assoc]
                  have h9 := H7.out
                  rw [nput_mid HRIS.out] at h9
                  exact h9
                · exact (HBW.out.trans (.of_below HW6.out)).trans ⟨H8.out.os, H8.out.tape, H8.out.output, H8.out.size, fun x hx hm => H8.out.block x hx (by simpa using hm)⟩
              case measure => simp [intOf]; omega
      · have hlo2 : ¬ (0 : Int) < (f.b.length : Int) - f.safe := by omega
        have HTF : Hid (tornF f (t.drop i) = ⟨f.b, f.safe, f.kept⟩) := Lib.hid (by unfold tornF; rw [if_neg hlo])
        have HDI : Hid (t.drop i = dropT f (t.drop i)) := Lib.hid (by unfold dropT; rw [if_neg hlo])
        have HBB := Lib.hid HBS.out
        have HBN := Lib.hid HA0.out
        have HSZ : Hid (f.b.length ≤ cap ∧ f.safe ≤ f.b.length ∧ f.b.length ≤ 67108864) := Lib.hid ⟨hcap, hsafe, hlen⟩
        go_upto_region 16 with (fail)
        generalize hlf : f.b.length = lf at *
        have HBBL := Lib.hid hlf
        clear hlf
        generalize f.safe = sf at *
        generalize f.b = bb at *
        have hp2 : ∀ o, (wr.alloc o).cell? ⟨p, 1, none⟩ = some (.map (some m)) := fun o => ((below_alloc wr o).cell (p := ⟨p, 1, none⟩) (cell_lt hp1)).trans hp1
        cases hkk : f.kept with
        | true =>
          rw [hkk] at HTF
          have hng : goneF (tornF f (t.drop i)) = false := by rw [HTF.out]; unfold goneF; first | (simp [hkk, HBBL.out, hl0]; done) | (simp [hkk]; done)
          have hcs := crash_snoc (a := d.fs.take j) (k := k) (f := f) HDR.out
          rw [hng, if_neg (by decide), HTF.out] at hcs
          go_upto_region 19 with (fail)
          obtain ⟨hfb, hbl⟩ := boxes1 wr (.cells #[.slice A lf cap, .int .i64 sf, .bool true] 79)
          have HF5 := Lib.hid hfb; have HB5 := Lib.hid hbl
          have HR5 := Lib.hid (HR.out.below hbl)
          have HV5 := Lib.hid (show FileV _ (.agg #[.slice A lf cap, .int .i64 sf, .bool true]) ⟨bb, sf, true⟩ from ⟨A, cap, by rw [HBBL.out], (HBB.out.below hbl).more hbl.size, by rw [HBBL.out]; exact HSZ.out.1, by rw [HBBL.out]; exact HSZ.out.2.1, by rw [HBBL.out]; exact HSZ.out.2.2, HBN.out⟩)
          clear hfb hbl
          generalize wr.alloc (.cells #[.slice A lf cap, .int .i64 sf, .bool true] 79) = w5 at *
          have HC5 : Hid (∀ W, Below w5.heap.size w5 W → W.cell? ⟨p, 1, none⟩ = some (.map (some m)) ∧ W.cell? ⟨wr.heap.size, 0, none⟩ = some (.slice A lf cap) ∧ W.cell? ⟨wr.heap.size, 1, none⟩ = some (.int .i64 sf) ∧ W.cell? ⟨wr.heap.size, 2, none⟩ = some (.bool true)) := Lib.hid fun W h => by
            have a1 := cell_blk ((h.block _ (lt_blk HF5.out)).trans HF5.out)
            have a2 := cell_blk ((h.block _ HR5.out.lt).trans HR5.out.own) 1
            exact ⟨a2, a1 0, a1 1, a1 2⟩
          have HCS := Lib.hid hcs
          clear hcs hng
          apply wp_region_relH (H := []) 6 [(Sum.inl _ : TT), (Sum.inl _ : TT), (Sum.inl _ : TT), (Sum.inl _ : TT), (Sum.inl _ : TT), (Sum.inl _ : TT)] (by kernel_rfl) (by kernel_rfl) (fun _ _ _ _ _ h => h) rfl
          simp only [List.take_succ_cons, List.take_zero, List.drop_succ_cons, List.drop_zero]
          iterate 6 (apply rel_isS; (intro W hW hf; obtain ⟨x1, x2, x3, x4⟩ := HC5.out W hW; go_simp; first | exact ⟨StayS.refl _ _, rfl⟩ | rfl); simp only [Act.put, List.setIfInBounds_toArray, List.set_cons_succ, List.set_cons_zero])
          refine rel_endS ?_
          intro W hW hf
          try simp only [Act.put, List.setIfInBounds_toArray, List.set_cons_succ, List.set_cons_zero]
          have HR6 := Lib.hid (HR5.out.below hW)
          have HV6 := Lib.hid (HV5.out.below hW)
          have HW6 := Lib.hid (HB5.out.trans (hW.mono HB5.out.size))
          clear hW hf
          go_wp2_with (at_mapUpdate; refine wpList_layD HR6.out HCL.out k hkl _ _ HV6.out rfl _ _ _ rfl rfl rfl rfl ?_; intro w7 h7 h8; have H7 := Lib.hid h7; have H8 := Lib.hid h8; clear h7 h8)
          go_roundw
          case rel =>
            refine ⟨j + 1, i, by omega, by go_num, by go_num, by omega, ?_, ?_, ?_⟩
            · rw [HTAKE.out, HCS.out.2]; exact HDI.out
            · rw [HTAKE.out, HCS.out.1, List.append_assoc]
              have h9 := H7.out
              rw [nput_mid HRIS.out] at h9
              exact h9
            · exact (HBW.out.trans (.of_below HW6.out)).trans ⟨H8.out.os, H8.out.tape, H8.out.output, H8.out.size, fun x hx hm => H8.out.block x hx (by simpa using hm)⟩
          case measure => simp [intOf]; omega
        | false =>
          rw [hkk] at HTF
          by_cases hl0 : lf = 0
          · subst hl0
            have hg : goneF (tornF f (t.drop i)) = true := by rw [HTF.out]; unfold goneF; simp [hkk, HBBL.out]
            have hcs := crash_snoc (a := d.fs.take j) (k := k) (f := f) HDR.out
            rw [hg, if_pos rfl, List.append_nil] at hcs
            have hbl := below_alloc wr (.cells #[.slice A 0 cap, .int .i64 sf, .bool false] 79)
            obtain ⟨w7, hrun, h7, h8⟩ := (HR.out.below hbl).drop k hkl 0
            have H7 := Lib.hid h7; have H8 := Lib.hid h8; have HW6 := Lib.hid hbl; have HCS := Lib.hid hcs
            clear h7 h8 hbl hcs hg
            go_wp2_with fail
            go_roundw
            case rel =>
              refine ⟨j + 1, i, by omega, by go_num, by go_num, by omega, ?_, ?_, ?_⟩
              · rw [HTAKE.out, HCS.out.2]; exact HDI.out
              · rw [HTAKE.out, HCS.out.1]
                have h9 := H7.out
                rw [ndel_mid HRIS.out] at h9
                exact h9
              · exact (HBW.out.trans (.of_below HW6.out)).trans ⟨H8.out.os, H8.out.tape, H8.out.output, H8.out.size, fun x hx hm => H8.out.block x hx (by simpa using hm)⟩
            case measure => simp [intOf]; omega
          · have hl1 : ((lf : Int) == 0) = false := by simpa using hl0
            have hng : goneF (tornF f (t.drop i)) = false := by rw [HTF.out]; unfold goneF; first | (simp [hkk, HBBL.out, hl0]; done) | (simp [hkk]; done)
            have hcs := crash_snoc (a := d.fs.take j) (k := k) (f := f) HDR.out
            rw [hng, if_neg (by decide), HTF.out] at hcs
            go_upto_region 19 with (fail)
            obtain ⟨hfb, hbl⟩ := boxes1 wr (.cells #[.slice A lf cap, .int .i64 sf, .bool true] 79)
            have HF5 := Lib.hid hfb; have HB5 := Lib.hid hbl
            have HR5 := Lib.hid (HR.out.below hbl)
            have HV5 := Lib.hid (show FileV _ (.agg #[.slice A lf cap, .int .i64 sf, .bool true]) ⟨bb, sf, true⟩ from ⟨A, cap, by rw [HBBL.out], (HBB.out.below hbl).more hbl.size, by rw [HBBL.out]; exact HSZ.out.1, by rw [HBBL.out]; exact HSZ.out.2.1, by rw [HBBL.out]; exact HSZ.out.2.2, HBN.out⟩)
            clear hfb hbl
            generalize wr.alloc (.cells #[.slice A lf cap, .int .i64 sf, .bool true] 79) = w5 at *
            have HC5 : Hid (∀ W, Below w5.heap.size w5 W → W.cell? ⟨p, 1, none⟩ = some (.map (some m)) ∧ W.cell? ⟨wr.heap.size, 0, none⟩ = some (.slice A lf cap) ∧ W.cell? ⟨wr.heap.size, 1, none⟩ = some (.int .i64 sf) ∧ W.cell? ⟨wr.heap.size, 2, none⟩ = some (.bool true)) := Lib.hid fun W h => by
              have a1 := cell_blk ((h.block _ (lt_blk HF5.out)).trans HF5.out)
              have a2 := cell_blk ((h.block _ HR5.out.lt).trans HR5.out.own) 1
              exact ⟨a2, a1 0, a1 1, a1 2⟩
            have HCS := Lib.hid hcs
            clear hcs hng
            apply wp_region_relH (H := []) 6 [(Sum.inl _ : TT), (Sum.inl _ : TT), (Sum.inl _ : TT), (Sum.inl _ : TT), (Sum.inl _ : TT), (Sum.inl _ : TT)] (by kernel_rfl) (by kernel_rfl) (fun _ _ _ _ _ h => h) rfl
            simp only [List.take_succ_cons, List.take_zero, List.drop_succ_cons, List.drop_zero]
            iterate 6 (apply rel_isS; (intro W hW hf; obtain ⟨x1, x2, x3, x4⟩ := HC5.out W hW; go_simp; first | exact ⟨StayS.refl _ _, rfl⟩ | rfl); simp only [Act.put, List.setIfInBounds_toArray, List.set_cons_succ, List.set_cons_zero])
            refine rel_endS ?_
            intro W hW hf
            try simp only [Act.put, List.setIfInBounds_toArray, List.set_cons_succ, List.set_cons_zero]
            have HR6 := Lib.hid (HR5.out.below hW)
            have HV6 := Lib.hid (HV5.out.below hW)
            have HW6 := Lib.hid (HB5.out.trans (hW.mono HB5.out.size))
            clear hW hf
            go_wp2_with (at_mapUpdate; refine wpList_layD HR6.out HCL.out k hkl _ _ HV6.out rfl _ _ _ rfl rfl rfl rfl ?_; intro w7 h7 h8; have H7 := Lib.hid h7; have H8 := Lib.hid h8; clear h7 h8)
            go_roundw
            case rel =>
              refine ⟨j + 1, i, by omega, by go_num, by go_num, by omega, ?_, ?_, ?_⟩
              · rw [HTAKE.out, HCS.out.2]; exact HDI.out
              · rw [HTAKE.out, HCS.out.1, List.append_assoc]
                have h9 := H7.out
                rw [nput_mid HRIS.out] at h9
                exact h9
              · exact (HBW.out.trans (.of_below HW6.out)).trans ⟨H8.out.os, H8.out.tape, H8.out.output, H8.out.size, fun x hx hm => H8.out.block x hx (by simpa using hm)⟩
            case measure => simp [intOf]; omega
    · obtain rfl : j = n := by omega
      have hraw := HRW.out
      rw [List.take_of_length_le (by rw [HNN.out]; exact Nat.le_refl _), List.drop_of_length_le (by rw [HNN.out]; exact Nat.le_refl _), List.append_nil] at hraw
      have HR := Lib.hid hraw
      have hp2 := cell_blk hraw.own 2
      simp only [List.getElem?_toArray, List.getElem?_cons_succ, List.getElem?_cons_zero] at hp2
      have fz := fun i => free_blk hraw.own i
      have hp2' := hp2
      clear hraw
      go_wp2_with fail
      go_ret
      refine ⟨rfl, ?_, (((Dw.of_below HB2.out).trans ⟨HBW.out.os, HBW.out.tape, HBW.out.output, HBW.out.size, fun x hx _ hm => HBW.out.block x hx (by simpa using hm)⟩)).trans (((Ow.refl wr p).set 2 (.int .i64 (-1))).dw m)⟩
      obtain ⟨vs, h1, h2⟩ := HR.out.files
      exact ⟨set_blk HR.out.own 2 (.int .i64 (-1)), H2.out.ok.crash t, vs, h1.at (Below.heap_setCell _ _ _ _ (by simpa using HR.out.ne)), h2.mono fun v f hv => hv.set hp2' rfl⟩
end Go.Proofs.Ytjbpgjfnccmdaaa
end

section
set_option linter.unusedSimpArgs false
set_option linter.unusedVariables false
namespace Go.Proofs.Ytjbpgjfnccmdaaa
open Go.RowKit

set_option maxRecDepth 100000 in
set_option maxHeartbeats 2000000 in
theorem clone_at {w : World} {p m : Nat} {d : Dk} (h : DiskAt w p m d) : Calls Try.prog 39 #[.pointer (some ⟨p, 0, none⟩)] w fun e w' => ∃ p' m', e = .returned (.pointer (some ⟨p', 0, none⟩)) ∧ DiskAt w' p' m' d ∧ Below w.heap.size w w' ∧ w.heap.size ≤ p' ∧ w.heap.size ≤ m' := by
  obtain ⟨vs, hm, ha⟩ := h.files
  have H := Lib.hid h
  have HM := Lib.hid hm; have HA := Lib.hid ha
  have hc := fun i => cell_blk h.own i
  have c0 := hc 0; have c1 := hc 1; have c2 := hc 2; have c3 := hc 3
  simp only [List.getElem?_toArray, List.getElem?_cons_succ, List.getElem?_cons_zero] at c0 c1 c2 c3
  have c1' : ∀ o, (w.alloc o).cell? ⟨p, 1, none⟩ = some (.map (some m)) := fun o => ((below_alloc w o).cell (p := ⟨p, 1, none⟩) (cell_lt c1)).trans c1
  clear h hm ha hc
  go_enter Try.func39, Try.ntmps39
  go_wp2_with fail
  refine (none_at H.out).mono ?_
  rintro e w1 ⟨rfl, rfl⟩
  go_wp2_with fail
  obtain ⟨hb1, hb2⟩ := boxes1 w1 (.cells #[.int .i64 d.size, .map (some m), .int .i64 d.left, .int .i64 d.writes] 44)
  generalize w1.alloc (.cells #[.int .i64 d.size, .map (some m), .int .i64 d.left, .int .i64 d.writes] 44) = w2 at *
  have HCL := Lib.hid (clone_files 9 HR m vs.length (.map (kd vs)) w2 (HM.out.at (hb2.block m HM.out.lt)))
  have HO := Lib.hid hb1; have HB := Lib.hid hb2
  clear hb1 hb2 c1' c0 c1 c2 c3
  refine HCL.out.mono ?_
  rintro e w3 ⟨rfl, h3, h4⟩
  have H3 := Lib.hid h3; have H4 := Lib.hid h4
  have HO3 := Lib.hid ((h4.block _ (lt_blk HO.out)).trans HO.out)
  have hc := cell_blk HO3.out 1
  simp only [List.getElem?_toArray, List.getElem?_cons_succ, List.getElem?_cons_zero] at hc
  have fz := fun i => free_blk HO3.out i
  have hc' := hc
  have hsz := HB.out.size
  have hlt := lt_blk HO.out
  clear h3 h4
  go_wp2_with fail
  go_ret
  have HB3 := HB.out.trans (H4.out.mono HB.out.size)
  refine ⟨_, _, rfl, ⟨set_blk HO3.out 1 (.map (some w2.heap.size)), H.out.ok, vs, MapN.at H3.out (Below.heap_setCell _ _ _ _ (by simp; omega)), HA.out.mono fun v f hv => (hv.below HB3).set hc' rfl⟩, HB3.setCell (Nat.le_refl _) _, Nat.le_refl _, hsz⟩
end Go.Proofs.Ytjbpgjfnccmdaaa
end

section
set_option linter.unusedSimpArgs false
set_option linter.unusedVariables false
namespace Go.Proofs.Ytjbpgjfnccmdaaa
open Go.RowKit

/-- a disk, all of it new since w0. -/
structure D19 (w0 w : World) (p m : Nat) (d : Dk) : Prop where
  disk : DiskAt w p m d
  below : Below w0.heap.size w0 w
  hp : w0.heap.size ≤ p
  hm : w0.heap.size ≤ m
theorem below_dw {w0 w w' : World} {p m : Nat} (h : Below w0.heap.size w0 w) (hb : Dw w w' p m) (hp : w0.heap.size ≤ p) (hm : w0.heap.size ≤ m) : Below w0.heap.size w0 w' :=
  ⟨hb.os.trans h.os, hb.tape.trans h.tape, hb.output.trans h.output, Nat.le_trans h.size hb.size, fun k hk => (hb.block k (Nat.lt_of_lt_of_le hk h.size) (by omega) (by omega)).trans (h.block k hk)⟩
theorem D19.after {w0 w w' : World} {p m : Nat} {d : Dk} (h : D19 w0 w p m d) (hb : Below w.heap.size w w') : D19 w0 w' p m d := ⟨h.disk.below hb, h.below.trans (hb.mono h.below.size), h.hp, h.hm⟩
theorem D19.step {w0 w w' : World} {p m : Nat} {d d2 : Dk} (h : D19 w0 w p m d) (h2 : DiskAt w' p m d2) (hd : Dw w w' p m) : D19 w0 w' p m d2 := ⟨h2, below_dw h.below hd h.hp h.hm, h.hp, h.hm⟩
theorem D19.of {w0 w w' : World} {p m : Nat} {d d2 : Dk} {r : Dk × Nat} {en : Ending} {n : Nat} {z : Int} (h : D19 w0 w p m d) (hP : DiskP w p m r en w') (hr : r = (d2, n)) (hz : (n : Int) = z) : en = .returned (.int .i64 z) ∧ D19 w0 w' p m d2 ∧ Dw w w' p m := by
  subst hr hz
  exact ⟨hP.1, h.step hP.2.1 hP.2.2, hP.2.2⟩
theorem zs_lit {w : World} {g : Nat} (l : List Int) {T : TypeId} (h : w.heap[g]? = some (.cells (l.map fun z => .int .i64 z).toArray T (0, 0))) : Zs w w.heap.size (some ⟨g, 0, none⟩) l := fun i hi => ⟨g, 0, rfl, lt_blk h, by
  rw [cell_blk h]
  simp [List.getD_eq_getElem?_getD, hi]⟩
theorem d19_new {w w' : World} {n p m : Nat} (hd : DiskAt w' p m (emptyDk n)) (hb : Below w.heap.size w w') (hp : w.heap.size ≤ p) (hm : w.heap.size ≤ m) : D19 w w' p m (emptyDk n) := ⟨hd, hb, hp, hm⟩
set_option maxRecDepth 100000 in
set_option maxHeartbeats 8000000 in
theorem awake19 (w : World) : Calls Try.prog 35 #[] w fun e w' => e = .returned (.bool true) ∧ Below w.heap.size w w' := by
  have HNW := Lib.hid (new_at 10 (by decide) (by decide) w)
  go_enter Try.func35, Try.ntmps35
  go_wp2_with fail
  refine HNW.out.mono ?_
  rintro e w1 ⟨rfl, hd1, hb1⟩
  have HS1 := Lib.hid (d19_new hd1 hb1 (Nat.le_succ _) (Nat.le_refl _))
  clear hd1 hb1 HNW
  go_wp2_with fail
  obtain ⟨hbx, hby⟩ := boxes1 w1 (.cells #[.int .u8 1, .int .u8 2] 5)
  have HX2 := Lib.hid hbx
  have HS2 := Lib.hid (HS1.out.after hby)
  clear hbx hby
  generalize w1.alloc (.cells #[.int .u8 1, .int .u8 2] 5) = w2 at *
  clear HS1
  refine ((append_at HS2.out.disk (by decide) [97] (by decide) [1, 2] 2 rfl (by decide) (some ⟨w1.heap.size, 0, none⟩) 2 (Bs.blk (l := [1, 2]) HX2.out) (by intro h; cases h)).mono fun en W hP => HS2.out.of hP (d2 := (⟨10, [([97], ⟨[1, 2], 0, false⟩)], -1, 1⟩ : Dk)) (z := 0) rfl rfl).mono ?_
  rintro en w3 ⟨rfl, hs, hd⟩
  have HS3 := Lib.hid hs
  clear hs hd HS2
  go_wp2_with fail
  refine ((sync_at HS3.out.disk (by decide) [97] (by decide)).mono fun en W hP => HS3.out.of hP (d2 := (⟨10, [([97], ⟨[1, 2], 2, true⟩)], -1, 2⟩ : Dk)) (z := 0) rfl rfl).mono ?_
  rintro en w4 ⟨rfl, hs, hd⟩
  have HS4 := Lib.hid hs
  clear hs hd HS3
  go_wp2_with fail
  obtain ⟨hbx, hby⟩ := boxes1 w4 (.cells #[.int .u8 3, .int .u8 4] 5)
  have HX5 := Lib.hid hbx
  have HS5 := Lib.hid (HS4.out.after hby)
  clear hbx hby
  generalize w4.alloc (.cells #[.int .u8 3, .int .u8 4] 5) = w5 at *
  clear HS4
  refine ((append_at HS5.out.disk (by decide) [97] (by decide) [3, 4] 2 rfl (by decide) (some ⟨w4.heap.size, 0, none⟩) 2 (Bs.blk (l := [3, 4]) HX5.out) (by intro h; cases h)).mono fun en W hP => HS5.out.of hP (d2 := (⟨10, [([97], ⟨[1, 2, 3, 4], 2, true⟩)], -1, 3⟩ : Dk)) (z := 0) rfl rfl).mono ?_
  rintro en w6 ⟨rfl, hs, hd⟩
  have HS6 := Lib.hid hs
  clear hs hd HS5
  go_wp2_with fail
  refine (loose_at HS6.out.disk [97] (by decide)).mono ?_
  rintro en w7 ⟨rfl, hb⟩
  have HS7 := Lib.hid (HS6.out.after hb)
  clear hb HS6
  go_wp2_with fail
  refine (used_at HS7.out.disk).mono ?_
  rintro en w8 ⟨rfl, hb⟩
  have HS8 := Lib.hid (HS7.out.after hb)
  clear hb HS7
  go_wp2_with fail
  obtain ⟨hbx, hby⟩ := boxes1 w8 (.cells #[.int .i64 1] 3)
  have HX9 := Lib.hid hbx
  have HS9 := Lib.hid (HS8.out.after hby)
  clear hbx hby
  generalize w8.alloc (.cells #[.int .i64 1] 3) = w9 at *
  clear HS8
  refine (crash_at HS9.out.disk (by decide) [1] 1 rfl (by decide) (some ⟨w8.heap.size, 0, none⟩) 1 (zs_lit (g := w8.heap.size) [1] HX9.out)).mono ?_
  rintro en w10 ⟨rfl, hd1, hd⟩
  have HS10 := Lib.hid (HS9.out.step (d2 := (⟨10, [([97], ⟨[1, 2, 3], 3, true⟩)], -1, 3⟩ : Dk)) hd1 hd)
  clear hd1 hd HS9
  go_wp2_with fail
  refine (read_at HS10.out.disk [97] (by decide)).mono ?_
  rintro en w11 ⟨Ar, cr, rfl, hbs, hA0, hcap, hb⟩
  have HS11 := Lib.hid (HS10.out.after hb)
  have HBr : Hid (Bs w11 w11.heap.size Ar [1, 2, 3]) := Lib.hid hbs
  have HZr : Hid (Ar = none → ([1, 2, 3] : List UInt8) = []) := Lib.hid hA0
  clear hbs hA0 hcap hb HS10
  go_wp2_with fail
  obtain ⟨hbx, hby⟩ := boxes1 w11 (.cells #[.int .u8 1, .int .u8 2, .int .u8 3] 5)
  have HX12 := Lib.hid hbx
  have HS12 := Lib.hid (HS11.out.after hby)
  replace HBr := Lib.hid ((HBr.out.below hby).more hby.size)
  clear hbx hby
  generalize w11.alloc (.cells #[.int .u8 1, .int .u8 2, .int .u8 3] 5) = w12 at *
  clear HS11
  refine (same_bytes [1, 2, 3] [1, 2, 3] Ar (some ⟨w11.heap.size, 0, none⟩) 3 3 cr 3 w12 w12.heap.size w12.heap.size rfl rfl HBr.out HZr.out (Bs.blk (l := [1, 2, 3]) HX12.out) (by intro h; cases h)).mono ?_
  rintro en w13 ⟨rfl, rfl⟩
  go_wp2_with fail
  refine (loose_at HS12.out.disk [97] (by decide)).mono ?_
  rintro en w14 ⟨rfl, hb⟩
  have HS14 := Lib.hid (HS12.out.after hb)
  replace HBr := Lib.hid ((HBr.out.below hb).more hb.size)
  clear hb HS12
  go_wp2_with fail
  go_ret
  exact ⟨rfl, HS14.out.below⟩
end Go.Proofs.Ytjbpgjfnccmdaaa
end

section
set_option linter.unusedSimpArgs false
set_option linter.unusedVariables false
namespace Go.Proofs.Ytjbpgjfnccmdaaa
open Go.RowKit

set_option maxRecDepth 100000 in
set_option maxHeartbeats 2000000 in
theorem same_texts (l : List Nm) (n : Nat) (hn : n = l.length) (hn2 : n ≤ 4611686018427387904) (A A' : Option Addr) (c c' B : Nat) (w : World) (hA : Rd w B A (l.map encStr)) (hA' : Rd w B A' (l.map encStr)) (hB : B ≤ w.heap.size) :
    Calls Try.prog 29 #[.slice A n c, .slice A' n c'] w fun e w' => e = .returned (.bool true) ∧ Below w.heap.size w w' := by
  have HA := Lib.hid hA; have HA' := Lib.hid hA'; have HN := Lib.hid hn
  clear hA hA' hn
  go_enter Try.func29, Try.ntmps29
  go_wp2_with fail
  go_loopw [5] (fun i wr => ∃ k : Nat, k ≤ n ∧ i = .int .i64 k ∧ Below w.heap.size w wr) (fun i _ => n - (intOf i).toNat)
  case atStart => exact ⟨0, by omega, rfl, Below.refl _ _⟩
  case round =>
    obtain ⟨k, hk, rfl, hb⟩ := hrel
    have Hb := Lib.hid hb
    clear hb
    by_cases hlt : k < n
    · have hkl : k < l.length := by rw [← HN.out]; exact hlt
      have hg : (l.map encStr)[k]? = some (.string (str l[k])) := by rw [List.getElem?_map, List.getElem?_eq_getElem hkl]; rfl
      obtain ⟨b, o, rfl, h0, h1⟩ := HA.out k _ hg
      obtain ⟨b', o', rfl, h0', h2⟩ := HA'.out k _ hg
      have T : Hid (∀ W, Below wr.heap.size wr W → W.cell? ⟨b, o + k, none⟩ = some (.string (str l[k])) ∧ W.cell? ⟨b', o' + k, none⟩ = some (.string (str l[k]))) := Lib.hid (fun W hW => by
        have hW := Hb.out.trans (hW.mono Hb.out.size)
        exact ⟨(hW.cell (p := ⟨b, o + k, none⟩) (Nat.lt_of_lt_of_le h0 hB)).trans h1, (hW.cell (p := ⟨b', o' + k, none⟩) (Nat.lt_of_lt_of_le h0' hB)).trans h2⟩)
      clear h1 h2 hg
      generalize str l[k] = z at *
      go_upto_region 6 with (fail)
      apply wp_region_relH (H := []) 9 [(Sum.inl _ : TT), (Sum.inl _ : TT), (Sum.inl _ : TT), (Sum.inl _ : TT), (Sum.inl _ : TT), (Sum.inl _ : TT), (Sum.inl _ : TT), (Sum.inl _ : TT), (Sum.inl _ : TT)] (by kernel_rfl) (by kernel_rfl) (fun _ _ _ _ _ h => h) rfl
      simp only [List.take_succ_cons, List.take_zero, List.drop_succ_cons, List.drop_zero]
      iterate 9 (apply rel_isS; (intro W hW hf; obtain ⟨hx1, hx2⟩ := T.out W hW; go_simp; first | exact ⟨StayS.refl _ _, rfl⟩ | rfl); simp only [Act.put, List.setIfInBounds_toArray, List.set_cons_succ, List.set_cons_zero])
      refine rel_endS ?_
      intro W hW hf
      try simp only [Act.put, List.setIfInBounds_toArray, List.set_cons_succ, List.set_cons_zero]
      refine wpList_nil ?_
      have HW := Lib.hid (Hb.out.trans (hW.mono Hb.out.size))
      clear hW hf
      go_wp2_with fail
      go_roundw
      case rel => exact ⟨k + 1, by omega, by go_num, HW.out⟩
      case measure => simp [intOf]; omega
    · obtain rfl : k = n := by omega
      go_wp2_with fail
      go_ret
      exact ⟨rfl, Hb.out⟩
set_option maxRecDepth 100000 in
set_option maxHeartbeats 2000000 in
theorem new_bad (w : World) : Calls Try.prog 13 #[.int .i64 0] w fun e w' => e = .returned (.tuple #[.pointer none, .int .i64 2]) ∧ w' = w := by
  go_enter Try.func13, Try.ntmps13
  go_wp2_with fail
  go_ret2
  exact ⟨rfl, rfl⟩
theorem rd_texts {w : World} {g : Nat} (l : List Nm) {T : TypeId} (h : w.heap[g]? = some (.cells (l.map encStr).toArray T (0, 0))) : Rd w w.heap.size (some ⟨g, 0, none⟩) (l.map encStr) := fun j u hu => ⟨g, 0, rfl, lt_blk h, by
  rw [cell_blk h, Nat.zero_add, List.getElem?_toArray]
  exact hu⟩
end Go.Proofs.Ytjbpgjfnccmdaaa
end

section
set_option linter.unusedSimpArgs false
set_option linter.unusedVariables false
namespace Go.Proofs.Ytjbpgjfnccmdaaa
open Go.RowKit

structure Ac where
  kind : Int
  name : Nm
  too : Nm
  n : Int
  b : List UInt8
def Ac.zero : Ac := ⟨0, [], [], 0, []⟩
/-- calls as they lie in memory. -/
def Acs (w : World) (B : Nat) (A : Option Addr) (l : List Ac) : Prop := ∀ i, i < l.length → ∃ b o Ab cb Tb tl tc, A = some ⟨b, o, none⟩ ∧ b < B ∧ w.cell? ⟨b, o + i * 6, none⟩ = some (.int .i64 (l.getD i .zero).kind) ∧ w.cell? ⟨b, o + i * 6 + 1, none⟩ = some (.string (str (l.getD i .zero).name)) ∧ w.cell? ⟨b, o + i * 6 + 2, none⟩ = some (.string (str (l.getD i .zero).too)) ∧
  w.cell? ⟨b, o + i * 6 + 3, none⟩ = some (.int .i64 (l.getD i .zero).n) ∧ w.cell? ⟨b, o + i * 6 + 4, none⟩ = some (.slice Ab (l.getD i .zero).b.length cb) ∧ w.cell? ⟨b, o + i * 6 + 5, none⟩ = some (.slice Tb tl tc) ∧ Bs w B Ab (l.getD i .zero).b ∧ (Ab = none → (l.getD i .zero).b = [])
theorem Acs.below {w w' : World} {B : Nat} {A : Option Addr} {l : List Ac} (h : Acs w B A l) (hb : Below B w w') : Acs w' B A l := fun i hi => by
  obtain ⟨b, o, Ab, cb, Tb, tl, tc, h1, h2, c0, c1, c2, c3, c4, c5, h3, h4⟩ := h i hi
  exact ⟨b, o, Ab, cb, Tb, tl, tc, h1, h2, (hb.cell (p := ⟨b, _, none⟩) h2).trans c0, (hb.cell (p := ⟨b, _, none⟩) h2).trans c1, (hb.cell (p := ⟨b, _, none⟩) h2).trans c2, (hb.cell (p := ⟨b, _, none⟩) h2).trans c3, (hb.cell (p := ⟨b, _, none⟩) h2).trans c4, (hb.cell (p := ⟨b, _, none⟩) h2).trans c5, h3.below hb, h4⟩
def AcW (l : List Ac) : Prop := ∀ a ∈ l, a.name.length ≤ 9223372036854775807 ∧ a.too.length ≤ 9223372036854775807 ∧ -9223372036854775808 ≤ a.n ∧ a.n ≤ 9223372036854775807
def okA (a : Ac) : Bool := decide (a.b.length ≤ 400 ∧ 0 ≤ a.kind ∧ a.kind ≤ 4)
def Dk.play (d : Dk) (a : Ac) : Dk :=
  if a.kind = 0 then (d.append a.name a.b).1 else if a.kind = 1 then (d.cut a.name a.n).1 else if a.kind = 2 then (d.sync a.name).1 else if a.kind = 3 then (d.rename a.name a.too).1 else (d.remove a.name).1
def Dk.plays (d : Dk) (l : List Ac) : Dk := l.foldl Dk.play d
theorem play_writes (d : Dk) (a : Ac) : (d.play a).writes ≤ d.writes + 1 := by
  unfold Dk.play
  split
  · exact append_writes _ _ _
  split
  · exact cut_writes _ _ _
  split
  · exact sync_writes _ _
  split
  · exact rename_writes _ _ _
  · exact remove_writes _ _
theorem plays_writes : ∀ (l : List Ac) (d : Dk), (d.plays l).writes ≤ d.writes + l.length
  | [], d => Nat.le_refl _
  | a :: l, d => by
    have h1 := plays_writes l (d.play a)
    have h2 := play_writes d a
    show ((d.play a).plays l).writes ≤ _
    simp only [List.length_cons]
    omega
theorem plays_snoc (d : Dk) (l : List Ac) (a : Ac) : d.plays (l ++ [a]) = (d.plays l).play a := by unfold Dk.plays; rw [List.foldl_append]; rfl
theorem plays_step (d : Dk) (l : List Ac) (j : Nat) (h : j < l.length) : d.plays (l.take (j + 1)) = (d.plays (l.take j)).play (l.getD j .zero) := by
  rw [List.take_add_one, List.getElem?_eq_getElem h, List.getD_eq_getElem?_getD, List.getElem?_eq_getElem h]
  exact plays_snoc _ _ _
/-- a disk that stops, beside one that never stops. -/
structure Sim (a b : Dk) (s : Nat) : Prop where
  size : a.size = b.size
  fs : a.fs = b.fs
  writes : a.writes = b.writes
  lb : b.left = -1
  la : a.left = (s : Int) - a.writes
  le : a.writes ≤ s
theorem Sim.wr {a b : Dk} {s : Nat} (h : Sim a b s) (hl : a.writes < s) (fs : Nl Fl) : Sim (a.wr fs).1 (b.wr fs).1 s ∧ (a.wr fs).2 = (b.wr fs).2 := by
  have h1 := h.la; have h2 := h.lb
  unfold Dk.wr
  rw [if_neg (by omega), if_neg (by omega)]
  refine ⟨⟨h.size, rfl, ?_, ?_, ?_, ?_⟩, rfl⟩
  · show a.writes + 1 = b.writes + 1
    rw [h.writes]
  · show (if 0 < b.left then b.left - 1 else b.left) = -1
    rw [if_neg (by omega)]; exact h2
  · show (if 0 < a.left then a.left - 1 else a.left) = (s : Int) - ((a.writes + 1 : Nat) : Int)
    rw [if_pos (by omega)]; omega
  · show a.writes + 1 ≤ s
    omega
theorem Sim.play {a b : Dk} {s : Nat} (h : Sim a b s) (hl : a.writes < s) (x : Ac) : Sim (a.play x) (b.play x) s := by
  have hw := fun fs => (h.wr hl fs).1
  have e1 : ∀ k, a.has k = b.has k := fun k => by unfold Dk.has; rw [h.fs]
  have e2 : ∀ k, a.file k = b.file k := fun k => by unfold Dk.file; rw [h.fs]
  have e3 : a.used = b.used := by unfold Dk.used; rw [h.fs]
  unfold Dk.play
  split
  · unfold Dk.append
    rw [e1, e2, e3, h.size, h.fs]
    split
    · exact h
    split
    · exact h
    exact hw _
  split
  · unfold Dk.cut
    rw [e1, e2, h.fs]
    split
    · exact h
    split
    · exact h
    split
    · exact h
    exact hw _
  split
  · unfold Dk.sync
    rw [e1, e2, h.fs]
    split
    · exact h
    exact hw _
  split
  · unfold Dk.rename
    rw [e1, e2, h.fs]
    split
    · exact h
    split
    · exact h
    split
    · exact h
    exact hw _
  · unfold Dk.remove
    rw [e1, h.fs]
    split
    · exact h
    exact hw _
theorem wr_still {d : Dk} (h : d.left = 0) (fs : Nl Fl) : (d.wr fs).1 = d := by unfold Dk.wr; rw [if_pos h]
theorem play_still {d : Dk} (h : d.left = 0) (x : Ac) : d.play x = d := by
  have hw := wr_still h
  unfold Dk.play
  split
  · unfold Dk.append
    split
    · rfl
    split
    · rfl
    exact hw _
  split
  · unfold Dk.cut
    split
    · rfl
    split
    · rfl
    split
    · rfl
    exact hw _
  split
  · unfold Dk.sync
    split
    · rfl
    exact hw _
  split
  · unfold Dk.rename
    split
    · rfl
    split
    · rfl
    split
    · rfl
    exact hw _
  · unfold Dk.remove
    split
    · rfl
    exact hw _
theorem plays_still {d : Dk} (h : d.left = 0) : ∀ l : List Ac, d.plays l = d
  | [] => rfl
  | x :: l => by
    show (d.play x).plays l = d
    rw [play_still h]
    exact plays_still h l
/-- both, behind some of the calls; the one that stops, behind all. -/
theorem Sim.all {a b : Dk} {s : Nat} (h : Sim a b s) (l r : List Ac) (hs : Sim (a.plays l) (b.plays l) s) (hr : r = [] ∨ (b.plays l).writes = s) : a.plays (l ++ r) = a.plays l := by
  rcases hr with rfl | hr
  · rw [List.append_nil]
  · have : (a.plays l).left = 0 := by have h1 := hs.la; have h2 := hs.writes; omega
    have h3 := plays_still this r
    unfold Dk.plays at *
    rw [List.foldl_append]
    exact h3
end Go.Proofs.Ytjbpgjfnccmdaaa
end

section
set_option linter.unusedSimpArgs false
set_option linter.unusedVariables false
namespace Go.Proofs.Ytjbpgjfnccmdaaa
open Go.RowKit

theorem Dw.low {w w' : World} {p m B : Nat} (h : Dw w w' p m) (hp : B ≤ p) (hm : B ≤ m) (hB : B ≤ w.heap.size) : Below B w w' :=
  ⟨h.os, h.tape, h.output, h.size, fun k hk => h.block k (by omega) (by omega) (by omega)⟩
theorem DiskAt.key_len {w : World} {p m : Nat} {d : Dk} (h : DiskAt w p m d) : ∀ q ∈ d.fs, q.1.length ≤ 9223372036854775807 := by
  obtain ⟨vs, hm, ha⟩ := h.files
  obtain ⟨es, he, hk⟩ := World.ownsMap.keysOf hm
  have hv : ∀ q ∈ vs, q.1.length ≤ 9223372036854775807 := fun q hq => by
    injection he with he
    have h1 : (Lit.string q.1, DataW.held q.2) ∈ es := by rw [← he]; unfold kd; exact List.mem_map.2 ⟨q, hq, rfl⟩
    obtain ⟨v, hv⟩ := hk _ h1
    obtain ⟨x, _, hx, hl⟩ := Maps.keyOf_str Try.underlying9 hv
    injection hx with hx
    rw [hx]
    exact hl
  have hn := ha.names_eq
  intro q hq
  have h1 : q.1 ∈ names d.fs := List.mem_map.2 ⟨q, hq, rfl⟩
  rw [← hn] at h1
  obtain ⟨r, hr, he⟩ := List.mem_map.1 h1
  rw [← he]
  exact hv r hr
def PlayP (w : World) (p m : Nat) (d : Dk) (l : List Ac) (e : Ending) (w' : World) : Prop :=
  ((e = .returned (.bool true) ∧ l.all okA = true ∧ DiskAt w' p m (d.plays l)) ∨ (e = .returned (.bool false) ∧ l.all okA = false)) ∧ Dw w w' p m
set_option maxRecDepth 100000 in
set_option maxHeartbeats 8000000 in
theorem plays_at {w : World} {p m : Nat} {d : Dk} (h : DiskAt w p m d) (l : List Ac) (n : Nat) (hn : n = l.length) (hn2 : n ≤ 1000000) (hwr : d.writes ≤ 1000000000) (A : Option Addr) (cap B : Nat) (hA : Acs w B A l) (hW : AcW l) (hB : B ≤ w.heap.size) (hp : B ≤ p) (hm : B ≤ m) :
    Calls Try.prog 36 #[.pointer (some ⟨p, 0, none⟩), .slice A n cap] w (PlayP w p m d l) := by
  have H := Lib.hid h; have HA := Lib.hid hA; have HW := Lib.hid hW; have HN := Lib.hid hn
  clear h hA hW hn
  go_enter Try.func36, Try.ntmps36
  go_wp2_with fail
  go_loopw [5, 6, 33, 41, 49, 55, 63] (fun iv _ _ _ _ _ _ wr => ∃ k : Nat, k ≤ n ∧ iv = .int .i64 k ∧ DiskAt wr p m (d.plays (l.take k)) ∧ (l.take k).all okA = true ∧ Dw w wr p m) (fun iv _ _ _ _ _ _ _ => n - (intOf iv).toNat)
  case atStart => exact ⟨0, Nat.zero_le _, rfl, H.out, rfl, .refl _ _ _⟩
  case round =>
    obtain ⟨k, hk, rfl, hd, hall, hdw⟩ := hrel
    by_cases hlt : k < n
    · have hkl : k < l.length := by rw [← HN.out]; exact hlt
      have hlow := hdw.low hp hm hB
      obtain ⟨b, o, Ab, cb, Tb, tl, tc, rfl, hbB, c0, c1, c2, c3, c4, c5, hbs, hb0⟩ := (HA.out.below hlow) k hkl
      have hw := HW.out (l.getD k .zero) (by rw [List.getD_eq_getElem?_getD, List.getElem?_eq_getElem hkl]; exact List.getElem_mem hkl)
      have hwk : (d.plays (l.take k)).writes ≤ d.writes + k := by have := plays_writes (l.take k) d; rw [List.length_take] at this; omega
      have HS := Lib.hid (plays_step d l k hkl)
      have HALL2 : Hid (okA (l.getD k .zero) = true → (l.take (k + 1)).all okA = true) := Lib.hid (fun h => by
        rw [List.take_add_one, List.getElem?_eq_getElem hkl, List.all_append, hall]
        rw [List.getD_eq_getElem?_getD, List.getElem?_eq_getElem hkl] at h
        simpa using h)
      have HBAD : Hid (okA (l.getD k .zero) = false → l.all okA = false) := Lib.hid (fun h => by
        rw [List.all_eq_false]
        exact ⟨l.getD k .zero, by rw [List.getD_eq_getElem?_getD, List.getElem?_eq_getElem hkl]; exact List.getElem_mem hkl, by rw [h]; decide⟩)
      have HD := Lib.hid hd; have HDW := Lib.hid hdw; have HBS := Lib.hid hbs; have HB0 := Lib.hid hb0
      clear hd hall hdw hbs hb0 hlow
      generalize d.plays (l.take k) = dk at *
      generalize l.getD k .zero = a at *
      obtain ⟨kd, nm, too, nn, bb⟩ := a
      simp only [] at c0 c1 c2 c3 c4 hw
      obtain ⟨hw1, hw2, hw3, hw4⟩ := hw
      have hbl := below_alloc wr (.cells #[.int .i64 kd, .string (str nm), .string (str too), .int .i64 nn, .slice Ab bb.length cb, .slice Tb tl tc] 98)
      have H2 := Lib.hid (HD.out.below hbl)
      have HD2 := Lib.hid (HDW.out.trans (.of_below (p := p) (m := m) hbl))
      have HBS2 := Lib.hid ((HBS.out.below (hbl.mono (Nat.le_trans hB HDW.out.size))).more (Nat.le_trans (Nat.le_trans hB HDW.out.size) hbl.size))
      clear hbl HBS HD HDW
      by_cases hbig : 400 < bb.length
      · have hbig2 : (400 : Int) < (bb.length : Int) := by omega
        have HF : Hid (l.all okA = false) := Lib.hid (HBAD.out (by unfold okA; simp only [decide_eq_false_iff_not]; omega))
        go_wp2_with fail
        go_ret
        exact ⟨.inr ⟨rfl, HF.out⟩, HD2.out⟩
      have hbig2 : ¬ (400 : Int) < (bb.length : Int) := by omega
      by_cases hk0 : kd < 0
      · have HF : Hid (l.all okA = false) := Lib.hid (HBAD.out (by unfold okA; simp only [decide_eq_false_iff_not]; omega))
        go_wp2_with fail
        go_ret
        exact ⟨.inr ⟨rfl, HF.out⟩, HD2.out⟩
      by_cases hk4 : 4 < kd
      · have HF : Hid (l.all okA = false) := Lib.hid (HBAD.out (by unfold okA; simp only [decide_eq_false_iff_not]; omega))
        go_wp2_with fail
        go_ret
        exact ⟨.inr ⟨rfl, HF.out⟩, HD2.out⟩
      have hok : okA ⟨kd, nm, too, nn, bb⟩ = true := by unfold okA; simp only [decide_eq_true_eq]; omega
      have HALL3 := Lib.hid (HALL2.out hok)
      have HLB : Hid (bb.length = bb.length) := Lib.hid rfl
      have hcase : kd = 0 ∨ kd = 1 ∨ kd = 2 ∨ kd = 3 ∨ kd = 4 := by omega
      clear HALL2 hk0 hk4 hok hbig
      rcases hcase with rfl | rfl | rfl | rfl | rfl
      · generalize hlb : bb.length = lb at *
        have HLB := Lib.hid hlb
        clear hlb
        have HQ := Lib.hid (append_at H2.out (by omega) nm hw1 bb lb HLB.out.symm (by omega) Ab cb HBS2.out HB0.out)
        go_wp2_with fail
        refine HQ.out.mono ?_
        rintro e w3 ⟨rfl, h3, h4⟩
        have H3 := Lib.hid h3; have HD3 := Lib.hid (HD2.out.trans h4)
        clear h3 h4 HQ
        go_wp2_with fail
        go_roundw
        case rel => exact ⟨k + 1, by omega, by go_num, by rw [HS.out]; exact H3.out, HALL3.out, HD3.out⟩
        case measure => simp [intOf]; omega
      · have HQ := Lib.hid (cut_at H2.out (by omega) nm hw1 nn hw4)
        go_wp2_with fail
        refine HQ.out.mono ?_
        rintro e w3 ⟨rfl, h3, h4⟩
        have H3 := Lib.hid h3; have HD3 := Lib.hid (HD2.out.trans h4)
        clear h3 h4 HQ
        go_wp2_with fail
        go_roundw
        case rel => exact ⟨k + 1, by omega, by go_num, by rw [HS.out]; exact H3.out, HALL3.out, HD3.out⟩
        case measure => simp [intOf]; omega
      · have HQ := Lib.hid (sync_at H2.out (by omega) nm hw1)
        go_wp2_with fail
        refine HQ.out.mono ?_
        rintro e w3 ⟨rfl, h3, h4⟩
        have H3 := Lib.hid h3; have HD3 := Lib.hid (HD2.out.trans h4)
        clear h3 h4 HQ
        go_wp2_with fail
        go_roundw
        case rel => exact ⟨k + 1, by omega, by go_num, by rw [HS.out]; exact H3.out, HALL3.out, HD3.out⟩
        case measure => simp [intOf]; omega
      · have HQ := Lib.hid (rename_at H2.out (by omega) nm hw1 too hw2)
        go_wp2_with fail
        refine HQ.out.mono ?_
        rintro e w3 ⟨rfl, h3, h4⟩
        have H3 := Lib.hid h3; have HD3 := Lib.hid (HD2.out.trans h4)
        clear h3 h4 HQ
        go_wp2_with fail
        go_roundw
        case rel => exact ⟨k + 1, by omega, by go_num, by rw [HS.out]; exact H3.out, HALL3.out, HD3.out⟩
        case measure => simp [intOf]; omega
      · have HQ := Lib.hid (remove_at H2.out (by omega) nm hw1)
        go_wp2_with fail
        refine HQ.out.mono ?_
        rintro e w3 ⟨rfl, h3, h4⟩
        have H3 := Lib.hid h3; have HD3 := Lib.hid (HD2.out.trans h4)
        clear h3 h4 HQ
        go_wp2_with fail
        go_roundw
        case rel => exact ⟨k + 1, by omega, by go_num, by rw [HS.out]; exact H3.out, HALL3.out, HD3.out⟩
        case measure => simp [intOf]; omega
    · obtain rfl : k = n := by omega
      rw [HN.out, List.take_length] at hd hall
      have HD := Lib.hid hd; have HDW := Lib.hid hdw; have HAL := Lib.hid hall
      clear hd hdw hall
      go_wp2_with fail
      go_ret
      exact ⟨.inl ⟨rfl, HAL.out, HD.out⟩, HDW.out⟩
end Go.Proofs.Ytjbpgjfnccmdaaa
end
