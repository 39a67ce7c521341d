/- several texts in one: disk.Names., disk.Crash. -/
import Derived.Test.YtegekaocbalndaaGreatDoorMx
import Derived.Test.YtegekaocbalndaaGreatDoorMg7
import Derived.Test.YtegekaocbalndaaGreatDoorMg6
import Derived.Test.YtegekaocbalndaaGreatDoorMw
import Derived.Test.YtegekaocbalndaaGreatDoorMg9
import Derived.Test.YtegekaocbalndaaGreatDoorMg8
import Derived.Test.YtegekaocbalndaaGreatDoorMg15
import Derived.Test.YtegekaocbalndaaGreatDoorIz
section
set_option linter.unusedSimpArgs false
set_option linter.unusedVariables false
namespace Go.Proofs.YtegekaocbalndaaGreatDoor
open Go.RowKit

theorem before_le : ∀ (a b : List UInt8), bytesBefore a b = true → a ≤ b
  | [], [], h => by cases h
  | [], _ :: _, _ => List.nil_le _
  | _ :: _, [], h => by cases h
  | a :: r, b :: s, h => by
    unfold bytesBefore at h
    rw [List.cons_le_cons_iff]
    rw [Bool.or_eq_true, Bool.and_eq_true] at h
    rcases h with h | ⟨h1, h2⟩
    · exact .inl (by simpa using h)
    · exact .inr ⟨by simpa using h1, before_le r s h2⟩
theorem names_sorted {α : Type} {l : Nl α} (h : Rising l) {ss : List Nm} (hp : ss.Perm (names l)) : ss.mergeSort (fun x y => decide (x ≤ y)) = names l := by
  have tr : ∀ a b c : List UInt8, decide (a ≤ b) = true → decide (b ≤ c) = true → decide (a ≤ c) = true := fun a b c h1 h2 => by simp only [decide_eq_true_eq] at *; exact List.le_trans h1 h2
  have tt : ∀ a b : List UInt8, (decide (a ≤ b) || decide (b ≤ a)) = true := fun a b => by simp only [Bool.or_eq_true, decide_eq_true_eq]; exact List.le_total a b
  have hs : (names l).Pairwise fun a b => decide (a ≤ b) = true := by
    unfold names
    rw [List.pairwise_map]
    exact h.imp fun {p q} h => by rw [decide_eq_true_eq]; exact before_le _ _ h
  refine List.Perm.eq_of_pairwise (le := fun a b => decide (a ≤ b) = true) (fun a b _ _ h1 h2 => ?_) (List.pairwise_mergeSort tr tt ss) hs ((List.mergeSort_perm ss _).trans hp)
  simp only [decide_eq_true_eq] at h1 h2
  exact List.le_antisymm h1 h2
theorem Alike.names_eq {α β : Type} {R : α → β → Prop} : ∀ {l : Nl α} {l' : Nl β}, Alike R l l' → names l = names l'
  | [], [], _ => rfl
  | p :: l, q :: l', h => by
    unfold names
    rw [List.map_cons, List.map_cons, h.1]
    have := h.2.2.names_eq
    unfold names at this
    rw [this]
  | [], _ :: _, h => h.elim
  | _ :: _, [], h => h.elim
set_option maxRecDepth 100000 in
set_option maxHeartbeats 2000000 in
theorem names_at {w : World} {p m : Nat} {d : Dk} (h : DiskAt w p m d) : Calls Tryz.prog 21 #[.pointer (some ⟨p, 0, none⟩)] w fun e w' => ∃ v, e = .returned v ∧ w'.ownsRow w.heap.size 9 1 v d.fs.length ((names d.fs).map encStr) ∧ Below w.heap.size w w' := by
  obtain ⟨vs, hm, ha⟩ := h.files
  have hlen := ha.length
  have hnm := ha.names_eq
  have HN := Lib.hid (none_at h)
  have HK := Lib.hid (callsIn_wide.1 (keys_files (some m) w))
  have hct := h.ok.count
  have hks : strKeys (.map (kd vs)) = names vs := names_kd vs
  have hsz : Maps.size (.map (kd vs)) = d.fs.length := by rw [kd_size, hlen]
  have HS := Lib.hid (callsIn_wide.1 (sorted_files m vs.length (.map (kd vs)) HR w hm (by rw [hsz]; have : maxLen = 9223372036854775807 := rfl; omega) (by rw [hsz]; omega)))
  have HRS := Lib.hid h.ok.rising
  have HKS := Lib.hid (hks.trans hnm)
  have HLN : Hid ((names d.fs).length = d.fs.length) := Lib.hid (by unfold names; simp)
  have c1 := cell_blk h.own 1
  simp only [List.getElem?_toArray, List.getElem?_cons_succ, List.getElem?_cons_zero] at c1
  clear h hm ha hlen hnm hks hsz
  go_enter Tryz.func21, Tryz.ntmps21
  go_wp2_with fail
  refine HN.out.mono ?_
  rintro e w1 ⟨rfl, rfl⟩
  go_wp2_with fail
  refine HK.out.mono ?_
  rintro e w2 ⟨rfl, rfl⟩
  go_wp2_with fail
  refine HS.out.mono ?_
  rintro e w3 ⟨v, ss, rfl, hp, ho, _, hb⟩
  rw [HKS.out] at hp
  rw [names_sorted HRS.out hp] at ho
  have hl : ss.length = d.fs.length := by rw [← HLN.out]; exact hp.length_eq
  rw [hl] at ho
  have HO := Lib.hid ho
  have HB := Lib.hid ((below_alloc w1 (.cells #[.map (some m)] UM)).trans (hb.mono (below_alloc w1 _).size))
  have hsz2 := (below_alloc w1 (.cells #[.map (some m)] UM)).size
  clear hp ho hb hl
  go_wp2_with fail
  go_ret
  exact ⟨v, rfl, own_base HO.out hsz2, HB.out⟩
end Go.Proofs.YtegekaocbalndaaGreatDoor
end

section
set_option linter.unusedSimpArgs false
set_option linter.unusedVariables false
namespace Go.Proofs.YtegekaocbalndaaGreatDoor
open Go.RowKit

theorem Raw.look {w : World} {p m n : Nat} {left : Int} {writes : Nat} {fs : Nl Fl} (h : Raw w p m n left writes fs) {k : Nm} {f : Fl} (hk : k.length ≤ 9223372036854775807) (hf : nget fs k = some f) : ∃ A cap, Bs w w.heap.size A f.b ∧ (A = none → f.b = []) ∧ f.b.length ≤ cap ∧ f.safe ≤ f.b.length ∧ f.b.length ≤ 67108864 ∧
    ∀ W, W.heap[m]? = w.heap[m]? → (Instr.lookup UM (.map (some m)) (.string (str k)) false).run Tryz.prog W = .ok (.agg #[.slice A f.b.length cap, .int .i64 f.safe, .bool f.kept]) W := by
  obtain ⟨vs, h1, h2⟩ := h.files
  obtain ⟨h3, h4⟩ := h2.look k
  rw [hf] at h4
  obtain ⟨A, cap, h5, h6, h7, h8, h9, h10⟩ := h4
  refine ⟨A, cap, h6, h10, h7, h8, h9, fun W hW => ?_⟩
  have := (h1.at hW).look (Maps.string_keyed Tryz.underlying9) Tryz.underlying51 (Tryz.zeroValue78 W) (keyStr k hk)
  rw [this]
  change (Result.ok ((nget vs k).getD zfile) W) = _
  rw [h5]
  rfl
theorem Raw.bw {w w' : World} {p m n : Nat} {left : Int} {writes : Nat} {fs : Nl Fl} (h : Raw w p m n left writes fs) {S : List Nat} (hb : Bw w w' S) (hs : p ∉ S ∧ m ∉ S ∧ ∀ k ∈ S, NoBytes w k) : Raw w' p m n left writes fs := by
  obtain ⟨vs, h1, h2⟩ := h.files
  refine ⟨(hb.block p h.lt hs.1).trans h.own, vs, h1.at (hb.block m h.ltm hs.2.1), h2.mono fun v f hv => ?_⟩
  obtain ⟨A, cap, h3, h4, h5⟩ := hv
  exact ⟨A, cap, h3, (hb.bs hs.2.2 (Nat.le_refl _) h4).more hb.size, h5⟩
/-- a row of names. -/
theorem names_cell {w : World} {An : Option Addr} {fs : Nl Fl} (hrd : Rd w w.heap.size An ((names fs).map encStr)) {j : Nat} {k : Nm} {f : Fl} (hj : fs[j]? = some (k, f)) : ∃ b o, An = some ⟨b, o, none⟩ ∧ b < w.heap.size ∧ w.cell? ⟨b, o + j, none⟩ = some (.string (str k)) := by
  obtain ⟨b, o, h1, h2, h3⟩ := hrd j (encStr k) (by unfold names; rw [List.getElem?_map, List.getElem?_map, hj]; rfl)
  exact ⟨b, o, h1, h2, h3⟩
theorem drop_head (t : List Int) (i : Nat) : (t.drop i).headD 0 = t.getD i 0 := by
  rw [List.headD_eq_head?_getD, List.head?_drop, List.getD_eq_getElem?_getD]
theorem crash_snoc {a : Nl Fl} {k : Nm} {f : Fl} {t u : List Int} (hu : u = dropL a t) : crashL (a ++ [(k, f)]) t = crashL a t ++ (if goneF (tornF f u) = true then [] else [(k, ⟨(tornF f u).b, (tornF f u).safe, true⟩)]) ∧ dropL (a ++ [(k, f)]) t = dropT f u := by
  subst hu
  rw [crashL_app, dropL_app]
  refine ⟨?_, rfl⟩
  congr 1
def CrashI (w2 : World) (p m sz : Nat) (left : Int) (writes : Nat) (fs : Nl Fl) (t : List Int) (n : Nat) (iv jv : Value) (wr : World) : Prop :=
  ∃ (j i : Nat), j ≤ n ∧ jv = .int .i64 j ∧ iv = .int .i64 i ∧ i ≤ j ∧ t.drop i = dropL (fs.take j) t ∧ Raw wr p m sz left writes (crashL (fs.take j) t ++ fs.drop j) ∧ Bw w2 wr [m]
set_option maxRecDepth 100000 in
set_option maxHeartbeats 8000000 in
theorem crash_at {w : World} {p m : Nat} {d : Dk} (h : DiskAt w p m d) (hks : ∀ q ∈ d.fs, q.1.length ≤ 9223372036854775807) (t : List Int) (tn : Nat) (htn : tn = t.length) (hz : tn ≤ 4611686018427387904) (T : Option Addr) (tc : Nat) (hT : Zs w w.heap.size T t) :
    Calls Tryz.prog 19 #[.pointer (some ⟨p, 0, none⟩), .slice T tn tc] w fun e w' => e = .returned (.int .i64 0) ∧ DiskAt w' p m (d.crash t) ∧ Dw w w' p m := by
  have H := Lib.hid h
  have HT := Lib.hid hT; have HTN := Lib.hid htn
  have HKS := Lib.hid hks
  clear h hT htn hks
  go_enter Tryz.func19, Tryz.ntmps19
  go_wp2_with fail
  refine (none_at H.out).mono ?_
  rintro e w1 ⟨rfl, rfl⟩
  go_wp2_with fail
  refine (names_at H.out).mono ?_
  rintro e w2 ⟨v, rfl, ho, hb2⟩
  obtain ⟨An, cn, rfl, hrd, _, _⟩ := own_rd ho
  have H2 := Lib.hid (H.out.below hb2)
  have HB2 := Lib.hid hb2
  have HRD := Lib.hid hrd
  have HT2 := Lib.hid ((HT.out.below hb2).more hb2.size)
  have hct := H2.out.ok.count
  have HN : Hid (d.fs.length = d.fs.length) := Lib.hid rfl
  generalize hn : d.fs.length = n at *
  have HNN := Lib.hid hn
  clear ho hb2 hrd hn HN
  go_wp2_with fail
  go_loopw [5, 7, 8, 9, 10, 16] (fun iv _ _ _ _ jv wr => CrashI w2 p m d.size d.left d.writes d.fs t n iv jv wr) (fun _ _ _ _ _ jv _ => n - (intOf jv).toNat)
  case atStart => exact ⟨0, 0, Nat.zero_le _, rfl, rfl, Nat.le_refl _, rfl, by rw [List.take_zero]; exact H2.out.raw, .refl _ _⟩
  case round =>
    obtain ⟨j, i, hj, rfl, rfl, hij, hdr, hraw, hbw⟩ := hrel
    have HDR := Lib.hid hdr; have HRW := Lib.hid hraw; have HBW := Lib.hid hbw
    clear hdr hraw hbw
    by_cases hlt : j < n
    · obtain ⟨⟨k, f⟩, hkf⟩ : ∃ q, d.fs[j]? = some q := ⟨_, List.getElem?_eq_getElem (by rw [HNN.out]; exact hlt)⟩
      have hdrop : d.fs.drop j = (k, f) :: d.fs.drop (j + 1) := by
        rw [List.drop_eq_getElem_cons (by rw [HNN.out]; exact hlt)]
        rw [List.getElem?_eq_getElem (by rw [HNN.out]; exact hlt)] at hkf
        injection hkf with hkf
        rw [hkf]
      have htake : d.fs.take (j + 1) = d.fs.take j ++ [(k, f)] := by
        rw [List.take_add_one, hkf]; rfl
      have hris : Rising (crashL (d.fs.take j) t ++ (k, f) :: d.fs.drop (j + 1)) := by
        rw [← hdrop]
        exact crash_rising t (by rw [List.take_append_drop]; exact H2.out.ok.rising)
      have hraw := HRW.out
      rw [hdrop] at hraw
      have hkl : k.length ≤ 9223372036854775807 := HKS.out (k, f) (List.mem_of_getElem? hkf)
      obtain ⟨A, cap, hbs, hA0, hcap, hsafe, hlen, hlook⟩ := hraw.look hkl (nget_mid hris)
      have HR := Lib.hid hraw; have HBS := Lib.hid hbs; have HA0 := Lib.hid hA0
      have HRIS := Lib.hid hris; have HTAKE := Lib.hid htake
      obtain ⟨bn, on, rfl, hbn, hnc⟩ := names_cell HRD.out hkf
      have hnc2 := HBW.out.cell hnc (by simpa using H2.out.raw.no_map hnc)
      have hp1 := cell_blk hraw.own 1
      simp only [List.getElem?_toArray, List.getElem?_cons_succ, List.getElem?_cons_zero] at hp1
      have hl1 := hlook wr rfl
      have hcl : (crashL (d.fs.take j) t ++ (k, f) :: d.fs.drop (j + 1)).length ≤ 1000000 := by
        have h1 := (crashL_total (d.fs.take j) t (fun q hq => H2.out.ok.safe q (List.mem_of_mem_take hq))).2.1
        have h2 := HNN.out
        rw [List.length_append, List.length_cons, List.length_drop]
        rw [List.length_take] at h1
        omega
      have HCL := Lib.hid hcl
      have hwr := wi64 ((f.b.length : Int) - f.safe) (by omega) (by omega)
      clear hraw hbs hA0 hris htake hdrop hnc hkf hlook hcl
      by_cases hlo : f.safe < f.b.length
      · have hlo2 : (0 : Int) < (f.b.length : Int) - f.safe := by omega
        have hkl2 := keepOf_le (t.drop i) (f.b.length - f.safe)
        have HTF : Hid (tornF f (t.drop i) = ⟨f.b.take (f.safe + keepOf (t.drop i) (f.b.length - f.safe)), f.safe + keepOf (t.drop i) (f.b.length - f.safe), f.kept⟩) := Lib.hid (by unfold tornF; rw [if_pos hlo])
        have HDI : Hid (t.drop (i + 1) = dropT f (t.drop i)) := Lib.hid (by unfold dropT; rw [if_pos hlo, List.tail_drop])
        have hbl1 : (f.b.take (f.safe + keepOf (t.drop i) (f.b.length - f.safe))).length = f.safe + keepOf (t.drop i) (f.b.length - f.safe) := by rw [List.length_take]; omega
        have HBBL := Lib.hid hbl1
        have HBB := Lib.hid (HBS.out.take (f.safe + keepOf (t.drop i) (f.b.length - f.safe)))
        have HBN : Hid (A = none → f.b.take (f.safe + keepOf (t.drop i) (f.b.length - f.safe)) = []) := Lib.hid (fun h => by rw [HA0.out h]; simp)
        have HSZ : Hid (f.safe + keepOf (t.drop i) (f.b.length - f.safe) ≤ f.safe + keepOf (t.drop i) (f.b.length - f.safe) ∧ f.safe + keepOf (t.drop i) (f.b.length - f.safe) ≤ f.safe + keepOf (t.drop i) (f.b.length - f.safe) ∧ f.safe + keepOf (t.drop i) (f.b.length - f.safe) ≤ 67108864) := Lib.hid ⟨Nat.le_refl _, Nat.le_refl _, by omega⟩
        by_cases hti : i < tn
        · have hti2 : (i : Int) < tn := by omega
          obtain ⟨bt, ot, rfl, hbt, htc⟩ := HT2.out i (by rw [← HTN.out]; exact hti)
          have htc2 := HBW.out.cell htc (by simpa using H2.out.raw.no_map htc)
          have htc3 : ∀ o, (wr.alloc o).cell? ⟨bt, ot + i, none⟩ = some (.int .i64 (t.getD i 0)) := fun o => ((below_alloc wr o).cell (p := ⟨bt, ot + i, none⟩) (cell_lt htc2)).trans htc2
          have hkp : max 0 (min (t.getD i 0) ((f.b.length : Int) - f.safe)) = (keepOf (t.drop i) (f.b.length - f.safe) : Nat) := by unfold keepOf; rw [drop_head]; omega
          generalize keepOf (t.drop i) (f.b.length - f.safe) = kp at *
          generalize t.getD i 0 = z at *
          have hwr2 := wi64 ((f.safe : Int) + kp) (by omega) (by omega)
          clear htc hbl1
          go_upto_region 16 with (fail)
          generalize f.b.take (f.safe + kp) = bb at *
          have hcast : (f.safe : Int) + kp = ((f.safe + kp : Nat) : Int) := by omega
          simp only [hcast]
          generalize f.safe + kp = sf at *
          have hp2 : ∀ o, (wr.alloc o).cell? ⟨p, 1, none⟩ = some (.map (some m)) := fun o => ((below_alloc wr o).cell (p := ⟨p, 1, none⟩) (cell_lt hp1)).trans hp1
          cases hkk : f.kept with
          | true =>
            rw [hkk] at HTF
            have hng : goneF (tornF f (t.drop i)) = false := by rw [HTF.out]; unfold goneF; first | (simp [hkk, HBBL.out, hl0]; done) | (simp [hkk]; done)
            have hcs := crash_snoc (a := d.fs.take j) (k := k) (f := f) HDR.out
            rw [hng, if_neg (by decide), HTF.out] at hcs
            go_upto_region 19 with (fail)
            obtain ⟨hfb, hbl⟩ := boxes1 wr (.cells #[.slice A sf sf, .int .i64 sf, .bool true] 78)
            have HF5 := Lib.hid hfb; have HB5 := Lib.hid hbl
            have HR5 := Lib.hid (HR.out.below hbl)
            have HV5 := Lib.hid (show FileV _ (.agg #[.slice A sf sf, .int .i64 sf, .bool true]) ⟨bb, sf, true⟩ from ⟨A, sf, by rw [HBBL.out], (HBB.out.below hbl).more hbl.size, by rw [HBBL.out]; exact HSZ.out.1, by rw [HBBL.out]; exact HSZ.out.2.1, by rw [HBBL.out]; exact HSZ.out.2.2, HBN.out⟩)
            clear hfb hbl
            generalize wr.alloc (.cells #[.slice A sf sf, .int .i64 sf, .bool true] 78) = w5 at *
            have HC5 : Hid (∀ W, Below w5.heap.size w5 W → W.cell? ⟨p, 1, none⟩ = some (.map (some m)) ∧ W.cell? ⟨wr.heap.size, 0, none⟩ = some (.slice A sf sf) ∧ W.cell? ⟨wr.heap.size, 1, none⟩ = some (.int .i64 sf) ∧ W.cell? ⟨wr.heap.size, 2, none⟩ = some (.bool true)) := Lib.hid fun W h => by
              have a1 := cell_blk ((h.block _ (lt_blk HF5.out)).trans HF5.out)
              have a2 := cell_blk ((h.block _ HR5.out.lt).trans HR5.out.own) 1
              exact ⟨a2, a1 0, a1 1, a1 2⟩
            have HCS := Lib.hid hcs
            clear hcs hng
            apply wp_region_relH (H := []) 6 [(Sum.inl _ : TT), (Sum.inl _ : TT), (Sum.inl _ : TT), (Sum.inl _ : TT), (Sum.inl _ : TT), (Sum.inl _ : TT)] (by kernel_rfl) (by kernel_rfl) (fun _ _ _ _ _ h => h) rfl
            simp only [List.take_succ_cons, List.take_zero, List.drop_succ_cons, List.drop_zero]
            iterate 6 (apply rel_isS; (intro W hW hf; obtain ⟨x1, x2, x3, x4⟩ := HC5.out W hW; go_simp; first | exact ⟨StayS.refl _ _, rfl⟩ | rfl); simp only [Act.put, List.setIfInBounds_toArray, List.set_cons_succ, List.set_cons_zero])
            refine rel_endS ?_
            intro W hW hf
            try simp only [Act.put, List.setIfInBounds_toArray, List.set_cons_succ, List.set_cons_zero]
            have HR6 := Lib.hid (HR5.out.below hW)
            have HV6 := Lib.hid (HV5.out.below hW)
            have HW6 := Lib.hid (HB5.out.trans (hW.mono HB5.out.size))
            clear hW hf
            go_wp2_with (at_mapUpdate; refine wpList_layD HR6.out HCL.out k hkl _ _ HV6.out rfl _ _ _ rfl rfl rfl rfl ?_; intro w7 h7 h8; have H7 := Lib.hid h7; have H8 := Lib.hid h8; clear h7 h8)
            go_roundw
            case rel =>
              refine ⟨j + 1, i + 1, by omega, by go_num, by go_num, by omega, ?_, ?_, ?_⟩
              · rw [HTAKE.out, HCS.out.2]; exact HDI.out
              · rw [HTAKE.out, HCS.out.1, List.append_assoc]
                have h9 := H7.out
                rw [nput_mid HRIS.out] at h9
                exact h9
              · exact (HBW.out.trans (.of_below HW6.out)).trans ⟨H8.out.os, H8.out.tape, H8.out.output, H8.out.size, fun x hx hm => H8.out.block x hx (by simpa using hm)⟩
            case measure => simp [intOf]; omega
          | false =>
            rw [hkk] at HTF
            by_cases hl0 : sf = 0
            · subst hl0
              have hg : goneF (tornF f (t.drop i)) = true := by rw [HTF.out]; unfold goneF; simp [hkk, HBBL.out]
              have hcs := crash_snoc (a := d.fs.take j) (k := k) (f := f) HDR.out
              rw [hg, if_pos rfl, List.append_nil] at hcs
              have hbl := below_alloc wr (.cells #[.slice A 0 0, .int .i64 0, .bool false] 78)
              obtain ⟨w7, hrun, h7, h8⟩ := (HR.out.below hbl).drop k hkl 0
              have H7 := Lib.hid h7; have H8 := Lib.hid h8; have HW6 := Lib.hid hbl; have HCS := Lib.hid hcs
              clear h7 h8 hbl hcs hg
              go_wp2_with fail
              go_roundw
              case rel =>
                refine ⟨j + 1, i + 1, by omega, by go_num, by go_num, by omega, ?_, ?_, ?_⟩
                · rw [HTAKE.out, HCS.out.2]; exact HDI.out
                · rw [HTAKE.out, HCS.out.1]
                  have h9 := H7.out
                  rw [ndel_mid HRIS.out] at h9
                  exact h9
                · exact (HBW.out.trans (.of_below HW6.out)).trans ⟨H8.out.os, H8.out.tape, H8.out.output, H8.out.size, fun x hx hm => H8.out.block x hx (by simpa using hm)⟩
              case measure => simp [intOf]; omega
            · have hl1 : ((sf : Int) == 0) = false := by simpa using hl0
              have hng : goneF (tornF f (t.drop i)) = false := by rw [HTF.out]; unfold goneF; first | (simp [hkk, HBBL.out, hl0]; done) | (simp [hkk]; done)
              have hcs := crash_snoc (a := d.fs.take j) (k := k) (f := f) HDR.out
              rw [hng, if_neg (by decide), HTF.out] at hcs
              go_upto_region 19 with (fail)
              obtain ⟨hfb, hbl⟩ := boxes1 wr (.cells #[.slice A sf sf, .int .i64 sf, .bool true] 78)
              have HF5 := Lib.hid hfb; have HB5 := Lib.hid hbl
              have HR5 := Lib.hid (HR.out.below hbl)
              have HV5 := Lib.hid (show FileV _ (.agg #[.slice A sf sf, .int .i64 sf, .bool true]) ⟨bb, sf, true⟩ from ⟨A, sf, by rw [HBBL.out], (HBB.out.below hbl).more hbl.size, by rw [HBBL.out]; exact HSZ.out.1, by rw [HBBL.out]; exact HSZ.out.2.1, by rw [HBBL.out]; exact HSZ.out.2.2, HBN.out⟩)
              clear hfb hbl
              generalize wr.alloc (.cells #[.slice A sf sf, .int .i64 sf, .bool true] 78) = w5 at *
              have HC5 : Hid (∀ W, Below w5.heap.size w5 W → W.cell? ⟨p, 1, none⟩ = some (.map (some m)) ∧ W.cell? ⟨wr.heap.size, 0, none⟩ = some (.slice A sf sf) ∧ W.cell? ⟨wr.heap.size, 1, none⟩ = some (.int .i64 sf) ∧ W.cell? ⟨wr.heap.size, 2, none⟩ = some (.bool true)) := Lib.hid fun W h => by
                have a1 := cell_blk ((h.block _ (lt_blk HF5.out)).trans HF5.out)
                have a2 := cell_blk ((h.block _ HR5.out.lt).trans HR5.out.own) 1
                exact ⟨a2, a1 0, a1 1, a1 2⟩
              have HCS := Lib.hid hcs
              clear hcs hng
              apply wp_region_relH (H := []) 6 [(Sum.inl _ : TT), (Sum.inl _ : TT), (Sum.inl _ : TT), (Sum.inl _ : TT), (Sum.inl _ : TT), (Sum.inl _ : TT)] (by kernel_rfl) (by kernel_rfl) (fun _ _ _ _ _ h => h) rfl
              simp only [List.take_succ_cons, List.take_zero, List.drop_succ_cons, List.drop_zero]
              iterate 6 (apply rel_isS; (intro W hW hf; obtain ⟨x1, x2, x3, x4⟩ := HC5.out W hW; go_simp; first | exact ⟨StayS.refl _ _, rfl⟩ | rfl); simp only [Act.put, List.setIfInBounds_toArray, List.set_cons_succ, List.set_cons_zero])
              refine rel_endS ?_
              intro W hW hf
              try simp only [Act.put, List.setIfInBounds_toArray, List.set_cons_succ, List.set_cons_zero]
              have HR6 := Lib.hid (HR5.out.below hW)
              have HV6 := Lib.hid (HV5.out.below hW)
              have HW6 := Lib.hid (HB5.out.trans (hW.mono HB5.out.size))
              clear hW hf
              go_wp2_with (at_mapUpdate; refine wpList_layD HR6.out HCL.out k hkl _ _ HV6.out rfl _ _ _ rfl rfl rfl rfl ?_; intro w7 h7 h8; have H7 := Lib.hid h7; have H8 := Lib.hid h8; clear h7 h8)
              go_roundw
              case rel =>
                refine ⟨j + 1, i + 1, by omega, by go_num, by go_num, by omega, ?_, ?_, ?_⟩
                · rw [HTAKE.out, HCS.out.2]; exact HDI.out
                · rw [HTAKE.out, HCS.out.1, List.append_assoc]
                  have h9 := H7.out
                  rw [nput_mid HRIS.out] at h9
                  exact h9
                · exact (HBW.out.trans (.of_below HW6.out)).trans ⟨H8.out.os, H8.out.tape, H8.out.output, H8.out.size, fun x hx hm => H8.out.block x hx (by simpa using hm)⟩
              case measure => simp [intOf]; omega
        · have hti2 : ¬ (i : Int) < tn := by omega
          have hkp : keepOf (t.drop i) (f.b.length - f.safe) = 0 := by unfold keepOf; rw [drop_head, List.getD_eq_getElem?_getD, List.getElem?_eq_none (by rw [← HTN.out]; omega)]; simp only [Option.getD_none]; omega
          rw [hkp] at HTF HBBL HBB HBN HSZ
          have hkq : f.safe + 0 = f.safe := rfl
          rw [hkq] at HTF HBBL HBB HBN HSZ
          have hwr2 := wi64 ((f.safe : Int) + 0) (by omega) (by omega)
          clear hbl1 hkl2
          go_upto_region 16 with (fail)
          generalize f.b.take f.safe = bb at *
          try simp only [Int.add_zero, Nat.add_zero]
          generalize f.safe = sf at *
          have hp2 : ∀ o, (wr.alloc o).cell? ⟨p, 1, none⟩ = some (.map (some m)) := fun o => ((below_alloc wr o).cell (p := ⟨p, 1, none⟩) (cell_lt hp1)).trans hp1
          cases hkk : f.kept with
          | true =>
            rw [hkk] at HTF
            have hng : goneF (tornF f (t.drop i)) = false := by rw [HTF.out]; unfold goneF; first | (simp [hkk, HBBL.out, hl0]; done) | (simp [hkk]; done)
            have hcs := crash_snoc (a := d.fs.take j) (k := k) (f := f) HDR.out
            rw [hng, if_neg (by decide), HTF.out] at hcs
            go_upto_region 19 with (fail)
            obtain ⟨hfb, hbl⟩ := boxes1 wr (.cells #[.slice A sf sf, .int .i64 sf, .bool true] 78)
            have HF5 := Lib.hid hfb; have HB5 := Lib.hid hbl
            have HR5 := Lib.hid (HR.out.below hbl)
            have HV5 := Lib.hid (show FileV _ (.agg #[.slice A sf sf, .int .i64 sf, .bool true]) ⟨bb, sf, true⟩ from ⟨A, sf, by rw [HBBL.out], (HBB.out.below hbl).more hbl.size, by rw [HBBL.out]; exact HSZ.out.1, by rw [HBBL.out]; exact HSZ.out.2.1, by rw [HBBL.out]; exact HSZ.out.2.2, HBN.out⟩)
            clear hfb hbl
            generalize wr.alloc (.cells #[.slice A sf sf, .int .i64 sf, .bool true] 78) = w5 at *
            have HC5 : Hid (∀ W, Below w5.heap.size w5 W → W.cell? ⟨p, 1, none⟩ = some (.map (some m)) ∧ W.cell? ⟨wr.heap.size, 0, none⟩ = some (.slice A sf sf) ∧ W.cell? ⟨wr.heap.size, 1, none⟩ = some (.int .i64 sf) ∧ W.cell? ⟨wr.heap.size, 2, none⟩ = some (.bool true)) := Lib.hid fun W h => by
              have a1 := cell_blk ((h.block _ (lt_blk HF5.out)).trans HF5.out)
              have a2 := cell_blk ((h.block _ HR5.out.lt).trans HR5.out.own) 1
              exact ⟨a2, a1 0, a1 1, a1 2⟩
            have HCS := Lib.hid hcs
            clear hcs hng
            apply wp_region_relH (H := []) 6 [(Sum.inl _ : TT), (Sum.inl _ : TT), (Sum.inl _ : TT), (Sum.inl _ : TT), (Sum.inl _ : TT), (Sum.inl _ : TT)] (by kernel_rfl) (by kernel_rfl) (fun _ _ _ _ _ h => h) rfl
            simp only [List.take_succ_cons, List.take_zero, List.drop_succ_cons, List.drop_zero]
            iterate 6 (apply rel_isS; (intro W hW hf; obtain ⟨x1, x2, x3, x4⟩ := HC5.out W hW; go_simp; first | exact ⟨StayS.refl _ _, rfl⟩ | rfl); simp only [Act.put, List.setIfInBounds_toArray, List.set_cons_succ, List.set_cons_zero])
            refine rel_endS ?_
            intro W hW hf
            try simp only [Act.put, List.setIfInBounds_toArray, List.set_cons_succ, List.set_cons_zero]
            have HR6 := Lib.hid (HR5.out.below hW)
            have HV6 := Lib.hid (HV5.out.below hW)
            have HW6 := Lib.hid (HB5.out.trans (hW.mono HB5.out.size))
            clear hW hf
            go_wp2_with (at_mapUpdate; refine wpList_layD HR6.out HCL.out k hkl _ _ HV6.out rfl _ _ _ rfl rfl rfl rfl ?_; intro w7 h7 h8; have H7 := Lib.hid h7; have H8 := Lib.hid h8; clear h7 h8)
            go_roundw
            case rel =>
              refine ⟨j + 1, i + 1, by omega, by go_num, by go_num, by omega, ?_, ?_, ?_⟩
              · rw [HTAKE.out, HCS.out.2]; exact HDI.out
              · rw [HTAKE.out, HCS.out.1, List.append_assoc]
                have h9 := H7.out
                rw [nput_mid HRIS.out] at h9
                exact h9
              · exact (HBW.out.trans (.of_below HW6.out)).trans ⟨H8.out.os, H8.out.tape, H8.out.output, H8.out.size, fun x hx hm => H8.out.block x hx (by simpa using hm)⟩
            case measure => simp [intOf]; omega
          | false =>
            rw [hkk] at HTF
            by_cases hl0 : sf = 0
            · subst hl0
              have hg : goneF (tornF f (t.drop i)) = true := by rw [HTF.out]; unfold goneF; simp [hkk, HBBL.out]
              have hcs := crash_snoc (a := d.fs.take j) (k := k) (f := f) HDR.out
              rw [hg, if_pos rfl, List.append_nil] at hcs
              have hbl := below_alloc wr (.cells #[.slice A 0 0, .int .i64 0, .bool false] 78)
              obtain ⟨w7, hrun, h7, h8⟩ := (HR.out.below hbl).drop k hkl 0
              have H7 := Lib.hid h7; have H8 := Lib.hid h8; have HW6 := Lib.hid hbl; have HCS := Lib.hid hcs
              clear h7 h8 hbl hcs hg
              go_wp2_with fail
              go_roundw
              case rel =>
                refine ⟨j + 1, i + 1, by omega, by go_num, by go_num, by omega, ?_, ?_, ?_⟩
                · rw [HTAKE.out, HCS.out.2]; exact HDI.out
                · rw [HTAKE.out, HCS.out.1]
                  have h9 := H7.out
                  rw [ndel_mid HRIS.out] at h9
                  exact h9
                · exact (HBW.out.trans (.of_below HW6.out)).trans ⟨H8.out.os, H8.out.tape, H8.out.output, H8.out.size, fun x hx hm => H8.out.block x hx (by simpa using hm)⟩
              case measure => simp [intOf]; omega
            · have hl1 : ((sf : Int) == 0) = false := by simpa using hl0
              have hng : goneF (tornF f (t.drop i)) = false := by rw [HTF.out]; unfold goneF; first | (simp [hkk, HBBL.out, hl0]; done) | (simp [hkk]; done)
              have hcs := crash_snoc (a := d.fs.take j) (k := k) (f := f) HDR.out
              rw [hng, if_neg (by decide), HTF.out] at hcs
              go_upto_region 19 with (fail)
              obtain ⟨hfb, hbl⟩ := boxes1 wr (.cells #[.slice A sf sf, .int .i64 sf, .bool true] 78)
              have HF5 := Lib.hid hfb; have HB5 := Lib.hid hbl
              have HR5 := Lib.hid (HR.out.below hbl)
              have HV5 := Lib.hid (show FileV _ (.agg #[.slice A sf sf, .int .i64 sf, .bool true]) ⟨bb, sf, true⟩ from ⟨A, sf, by rw [HBBL.out], (HBB.out.below hbl).more hbl.size, by rw [HBBL.out]; exact HSZ.out.1, by rw [HBBL.out]; exact HSZ.out.2.1, by rw [HBBL.out]; exact HSZ.out.2.2, HBN.out⟩)
              clear hfb hbl
              generalize wr.alloc (.cells #[.slice A sf sf, .int .i64 sf, .bool true] 78) = w5 at *
              have HC5 : Hid (∀ W, Below w5.heap.size w5 W → W.cell? ⟨p, 1, none⟩ = some (.map (some m)) ∧ W.cell? ⟨wr.heap.size, 0, none⟩ = some (.slice A sf sf) ∧ W.cell? ⟨wr.heap.size, 1, none⟩ = some (.int .i64 sf) ∧ W.cell? ⟨wr.heap.size, 2, none⟩ = some (.bool true)) := Lib.hid fun W h => by
                have a1 := cell_blk ((h.block _ (lt_blk HF5.out)).trans HF5.out)
                have a2 := cell_blk ((h.block _ HR5.out.lt).trans HR5.out.own) 1
                exact ⟨a2, a1 0, a1 1, a1 2⟩
              have HCS := Lib.hid hcs
              clear hcs hng
              apply wp_region_relH (H := []) 6 [(Sum.inl _ : TT), (Sum.inl _ : TT), (Sum.inl _ : TT), (Sum.inl _ : TT), (Sum.inl _ : TT), (Sum.inl _ : TT)] (by kernel_rfl) (by kernel_rfl) (fun _ _ _ _ _ h => h) rfl
              simp only [List.take_succ_cons, List.take_zero, List.drop_succ_cons, List.drop_zero]
              iterate 6 (apply rel_isS; (intro W hW hf; obtain ⟨x1, x2, x3, x4⟩ := HC5.out W hW; go_simp; first | exact ⟨StayS.refl _ _, rfl⟩ | rfl); simp only [Act.put, List.setIfInBounds_toArray, List.set_cons_succ, List.set_cons_zero])
              refine rel_endS ?_
              intro W hW hf
              try simp only [Act.put, List.setIfInBounds_toArray, List.set_cons_succ, List.set_cons_zero]
              have HR6 := Lib.hid (HR5.out.below hW)
              have HV6 := Lib.hid (HV5.out.below hW)
              have HW6 := Lib.hid (HB5.out.trans (hW.mono HB5.out.size))
              clear hW hf
              go_wp2_with (at_mapUpdate; refine wpList_layD HR6.out HCL.out k hkl _ _ HV6.out rfl _ _ _ rfl rfl rfl rfl ?_; intro w7 h7 h8; have H7 := Lib.hid h7; have H8 := Lib.hid h8; clear h7 h8)
              go_roundw
              case rel =>
                refine ⟨j + 1, i + 1, by omega, by go_num, by go_num, by omega, ?_, ?_, ?_⟩
                · rw [HTAKE.out, HCS.out.2]; exact HDI.out
                · rw [HTAKE.out, HCS.out.1, List.append_assoc]
                  have h9 := H7.out
                  rw [nput_mid HRIS.out] at h9
                  exact h9
                · exact (HBW.out.trans (.of_below HW6.out)).trans ⟨H8.out.os, H8.out.tape, H8.out.output, H8.out.size, fun x hx hm => H8.out.block x hx (by simpa using hm)⟩
              case measure => simp [intOf]; omega
      · have hlo2 : ¬ (0 : Int) < (f.b.length : Int) - f.safe := by omega
        have HTF : Hid (tornF f (t.drop i) = ⟨f.b, f.safe, f.kept⟩) := Lib.hid (by unfold tornF; rw [if_neg hlo])
        have HDI : Hid (t.drop i = dropT f (t.drop i)) := Lib.hid (by unfold dropT; rw [if_neg hlo])
        have HBB := Lib.hid HBS.out
        have HBN := Lib.hid HA0.out
        have HSZ : Hid (f.b.length ≤ cap ∧ f.safe ≤ f.b.length ∧ f.b.length ≤ 67108864) := Lib.hid ⟨hcap, hsafe, hlen⟩
        go_upto_region 16 with (fail)
        generalize hlf : f.b.length = lf at *
        have HBBL := Lib.hid hlf
        clear hlf
        generalize f.safe = sf at *
        generalize f.b = bb at *
        have hp2 : ∀ o, (wr.alloc o).cell? ⟨p, 1, none⟩ = some (.map (some m)) := fun o => ((below_alloc wr o).cell (p := ⟨p, 1, none⟩) (cell_lt hp1)).trans hp1
        cases hkk : f.kept with
        | true =>
          rw [hkk] at HTF
          have hng : goneF (tornF f (t.drop i)) = false := by rw [HTF.out]; unfold goneF; first | (simp [hkk, HBBL.out, hl0]; done) | (simp [hkk]; done)
          have hcs := crash_snoc (a := d.fs.take j) (k := k) (f := f) HDR.out
          rw [hng, if_neg (by decide), HTF.out] at hcs
          go_upto_region 19 with (fail)
          obtain ⟨hfb, hbl⟩ := boxes1 wr (.cells #[.slice A lf cap, .int .i64 sf, .bool true] 78)
          have HF5 := Lib.hid hfb; have HB5 := Lib.hid hbl
          have HR5 := Lib.hid (HR.out.below hbl)
          have HV5 := Lib.hid (show FileV _ (.agg #[.slice A lf cap, .int .i64 sf, .bool true]) ⟨bb, sf, true⟩ from ⟨A, cap, by rw [HBBL.out], (HBB.out.below hbl).more hbl.size, by rw [HBBL.out]; exact HSZ.out.1, by rw [HBBL.out]; exact HSZ.out.2.1, by rw [HBBL.out]; exact HSZ.out.2.2, HBN.out⟩)
          clear hfb hbl
          generalize wr.alloc (.cells #[.slice A lf cap, .int .i64 sf, .bool true] 78) = w5 at *
          have HC5 : Hid (∀ W, Below w5.heap.size w5 W → W.cell? ⟨p, 1, none⟩ = some (.map (some m)) ∧ W.cell? ⟨wr.heap.size, 0, none⟩ = some (.slice A lf cap) ∧ W.cell? ⟨wr.heap.size, 1, none⟩ = some (.int .i64 sf) ∧ W.cell? ⟨wr.heap.size, 2, none⟩ = some (.bool true)) := Lib.hid fun W h => by
            have a1 := cell_blk ((h.block _ (lt_blk HF5.out)).trans HF5.out)
            have a2 := cell_blk ((h.block _ HR5.out.lt).trans HR5.out.own) 1
            exact ⟨a2, a1 0, a1 1, a1 2⟩
          have HCS := Lib.hid hcs
          clear hcs hng
          apply wp_region_relH (H := []) 6 [(Sum.inl _ : TT), (Sum.inl _ : TT), (Sum.inl _ : TT), (Sum.inl _ : TT), (Sum.inl _ : TT), (Sum.inl _ : TT)] (by kernel_rfl) (by kernel_rfl) (fun _ _ _ _ _ h => h) rfl
          simp only [List.take_succ_cons, List.take_zero, List.drop_succ_cons, List.drop_zero]
          iterate 6 (apply rel_isS; (intro W hW hf; obtain ⟨x1, x2, x3, x4⟩ := HC5.out W hW; go_simp; first | exact ⟨StayS.refl _ _, rfl⟩ | rfl); simp only [Act.put, List.setIfInBounds_toArray, List.set_cons_succ, List.set_cons_zero])
          refine rel_endS ?_
          intro W hW hf
          try simp only [Act.put, List.setIfInBounds_toArray, List.set_cons_succ, List.set_cons_zero]
          have HR6 := Lib.hid (HR5.out.below hW)
          have HV6 := Lib.hid (HV5.out.below hW)
          have HW6 := Lib.hid (HB5.out.trans (hW.mono HB5.out.size))
          clear hW hf
          go_wp2_with (at_mapUpdate; refine wpList_layD HR6.out HCL.out k hkl _ _ HV6.out rfl _ _ _ rfl rfl rfl rfl ?_; intro w7 h7 h8; have H7 := Lib.hid h7; have H8 := Lib.hid h8; clear h7 h8)
          go_roundw
          case rel =>
            refine ⟨j + 1, i, by omega, by go_num, by go_num, by omega, ?_, ?_, ?_⟩
            · rw [HTAKE.out, HCS.out.2]; exact HDI.out
            · rw [HTAKE.out, HCS.out.1, List.append_assoc]
              have h9 := H7.out
              rw [nput_mid HRIS.out] at h9
              exact h9
            · exact (HBW.out.trans (.of_below HW6.out)).trans ⟨H8.out.os, H8.out.tape, H8.out.output, H8.out.size, fun x hx hm => H8.out.block x hx (by simpa using hm)⟩
          case measure => simp [intOf]; omega
        | false =>
          rw [hkk] at HTF
          by_cases hl0 : lf = 0
          · subst hl0
            have hg : goneF (tornF f (t.drop i)) = true := by rw [HTF.out]; unfold goneF; simp [hkk, HBBL.out]
            have hcs := crash_snoc (a := d.fs.take j) (k := k) (f := f) HDR.out
            rw [hg, if_pos rfl, List.append_nil] at hcs
            have hbl := below_alloc wr (.cells #[.slice A 0 cap, .int .i64 sf, .bool false] 78)
            obtain ⟨w7, hrun, h7, h8⟩ := (HR.out.below hbl).drop k hkl 0
            have H7 := Lib.hid h7; have H8 := Lib.hid h8; have HW6 := Lib.hid hbl; have HCS := Lib.hid hcs
            clear h7 h8 hbl hcs hg
            go_wp2_with fail
            go_roundw
            case rel =>
              refine ⟨j + 1, i, by omega, by go_num, by go_num, by omega, ?_, ?_, ?_⟩
              · rw [HTAKE.out, HCS.out.2]; exact HDI.out
              · rw [HTAKE.out, HCS.out.1]
                have h9 := H7.out
                rw [ndel_mid HRIS.out] at h9
                exact h9
              · exact (HBW.out.trans (.of_below HW6.out)).trans ⟨H8.out.os, H8.out.tape, H8.out.output, H8.out.size, fun x hx hm => H8.out.block x hx (by simpa using hm)⟩
            case measure => simp [intOf]; omega
          · have hl1 : ((lf : Int) == 0) = false := by simpa using hl0
            have hng : goneF (tornF f (t.drop i)) = false := by rw [HTF.out]; unfold goneF; first | (simp [hkk, HBBL.out, hl0]; done) | (simp [hkk]; done)
            have hcs := crash_snoc (a := d.fs.take j) (k := k) (f := f) HDR.out
            rw [hng, if_neg (by decide), HTF.out] at hcs
            go_upto_region 19 with (fail)
            obtain ⟨hfb, hbl⟩ := boxes1 wr (.cells #[.slice A lf cap, .int .i64 sf, .bool true] 78)
            have HF5 := Lib.hid hfb; have HB5 := Lib.hid hbl
            have HR5 := Lib.hid (HR.out.below hbl)
            have HV5 := Lib.hid (show FileV _ (.agg #[.slice A lf cap, .int .i64 sf, .bool true]) ⟨bb, sf, true⟩ from ⟨A, cap, by rw [HBBL.out], (HBB.out.below hbl).more hbl.size, by rw [HBBL.out]; exact HSZ.out.1, by rw [HBBL.out]; exact HSZ.out.2.1, by rw [HBBL.out]; exact HSZ.out.2.2, HBN.out⟩)
            clear hfb hbl
            generalize wr.alloc (.cells #[.slice A lf cap, .int .i64 sf, .bool true] 78) = w5 at *
            have HC5 : Hid (∀ W, Below w5.heap.size w5 W → W.cell? ⟨p, 1, none⟩ = some (.map (some m)) ∧ W.cell? ⟨wr.heap.size, 0, none⟩ = some (.slice A lf cap) ∧ W.cell? ⟨wr.heap.size, 1, none⟩ = some (.int .i64 sf) ∧ W.cell? ⟨wr.heap.size, 2, none⟩ = some (.bool true)) := Lib.hid fun W h => by
              have a1 := cell_blk ((h.block _ (lt_blk HF5.out)).trans HF5.out)
              have a2 := cell_blk ((h.block _ HR5.out.lt).trans HR5.out.own) 1
              exact ⟨a2, a1 0, a1 1, a1 2⟩
            have HCS := Lib.hid hcs
            clear hcs hng
            apply wp_region_relH (H := []) 6 [(Sum.inl _ : TT), (Sum.inl _ : TT), (Sum.inl _ : TT), (Sum.inl _ : TT), (Sum.inl _ : TT), (Sum.inl _ : TT)] (by kernel_rfl) (by kernel_rfl) (fun _ _ _ _ _ h => h) rfl
            simp only [List.take_succ_cons, List.take_zero, List.drop_succ_cons, List.drop_zero]
            iterate 6 (apply rel_isS; (intro W hW hf; obtain ⟨x1, x2, x3, x4⟩ := HC5.out W hW; go_simp; first | exact ⟨StayS.refl _ _, rfl⟩ | rfl); simp only [Act.put, List.setIfInBounds_toArray, List.set_cons_succ, List.set_cons_zero])
            refine rel_endS ?_
            intro W hW hf
            try simp only [Act.put, List.setIfInBounds_toArray, List.set_cons_succ, List.set_cons_zero]
            have HR6 := Lib.hid (HR5.out.below hW)
            have HV6 := Lib.hid (HV5.out.below hW)
            have HW6 := Lib.hid (HB5.out.trans (hW.mono HB5.out.size))
            clear hW hf
            go_wp2_with (at_mapUpdate; refine wpList_layD HR6.out HCL.out k hkl _ _ HV6.out rfl _ _ _ rfl rfl rfl rfl ?_; intro w7 h7 h8; have H7 := Lib.hid h7; have H8 := Lib.hid h8; clear h7 h8)
            go_roundw
            case rel =>
              refine ⟨j + 1, i, by omega, by go_num, by go_num, by omega, ?_, ?_, ?_⟩
              · rw [HTAKE.out, HCS.out.2]; exact HDI.out
              · rw [HTAKE.out, HCS.out.1, List.append_assoc]
                have h9 := H7.out
                rw [nput_mid HRIS.out] at h9
                exact h9
              · exact (HBW.out.trans (.of_below HW6.out)).trans ⟨H8.out.os, H8.out.tape, H8.out.output, H8.out.size, fun x hx hm => H8.out.block x hx (by simpa using hm)⟩
            case measure => simp [intOf]; omega
    · obtain rfl : j = n := by omega
      have hraw := HRW.out
      rw [List.take_of_length_le (by rw [HNN.out]; exact Nat.le_refl _), List.drop_of_length_le (by rw [HNN.out]; exact Nat.le_refl _), List.append_nil] at hraw
      have HR := Lib.hid hraw
      have hp2 := cell_blk hraw.own 2
      simp only [List.getElem?_toArray, List.getElem?_cons_succ, List.getElem?_cons_zero] at hp2
      have fz := fun i => free_blk hraw.own i
      have hp2' := hp2
      clear hraw
      go_wp2_with fail
      go_ret
      refine ⟨rfl, ?_, (((Dw.of_below HB2.out).trans ⟨HBW.out.os, HBW.out.tape, HBW.out.output, HBW.out.size, fun x hx _ hm => HBW.out.block x hx (by simpa using hm)⟩)).trans (((Ow.refl wr p).set 2 (.int .i64 (-1))).dw m)⟩
      obtain ⟨vs, h1, h2⟩ := HR.out.files
      exact ⟨set_blk HR.out.own 2 (.int .i64 (-1)), H2.out.ok.crash t, vs, h1.at (Below.heap_setCell _ _ _ _ (by simpa using HR.out.ne)), h2.mono fun v f hv => hv.set hp2' rfl⟩
end Go.Proofs.YtegekaocbalndaaGreatDoor
end
