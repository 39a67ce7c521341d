/- two disks side by side; DiskStops. -/
import Derived.Test.YtjbpgjfnccmdaaaNm
import Derived.Test.YtjbpgjfnccmdaaaMg2
set_option linter.unusedSimpArgs false
set_option linter.unusedVariables false
namespace Go.Proofs.Ytjbpgjfnccmdaaa
open Go.RowKit

theorem Acs.one {w : World} {B : Nat} {A : Option Addr} {l : List Ac} (h : Acs w B A l) {i : Nat} (hi : i < l.length) : ∃ b o, A = some ⟨b, o, none⟩ ∧ Acs w B (some ⟨b, o + i * 6, none⟩) [l.getD i .zero] := by
  obtain ⟨b, o, Ab, cb, Tb, tl, tc, h1, h2, h3⟩ := h i hi
  refine ⟨b, o, h1, fun j hj => ?_⟩
  obtain rfl : j = 0 := by simp at hj; omega
  exact ⟨b, o + i * 6, Ab, cb, Tb, tl, tc, rfl, h2, by simpa using h3⟩
/-- two disks, all of both new since w0. -/
structure T19 (w0 w : World) (pa ma : Nat) (da : Dk) (pb mb : Nat) (db : Dk) : Prop where
  a : DiskAt w pa ma da
  b : DiskAt w pb mb db
  below : Below w0.heap.size w0 w
  la : w0.heap.size ≤ pa ∧ w0.heap.size ≤ ma ∧ w0.heap.size ≤ pb ∧ w0.heap.size ≤ mb
  ne : pa ≠ pb ∧ pa ≠ mb ∧ ma ≠ pb ∧ ma ≠ mb
theorem DiskAt.other {w w' : World} {p m p2 m2 : Nat} {d d2 : Dk} (h : DiskAt w p m d) (h2 : DiskAt w p2 m2 d2) (hne : p2 ≠ p ∧ p2 ≠ m ∧ m2 ≠ p ∧ m2 ≠ m) (hd : Dw w w' p m) : DiskAt w' p2 m2 d2 :=
  (h2.raw.bw hd.bw ⟨by simp; exact ⟨hne.1, hne.2.1⟩, by simp; exact ⟨hne.2.2.1, hne.2.2.2⟩, h.noBytes⟩).disk h2.ok
section
variable {w0 w w' : World} {pa ma pb mb : Nat} {da db d2 : Dk}
theorem T19.after (h : T19 w0 w pa ma da pb mb db) (hb : Below w.heap.size w w') : T19 w0 w' pa ma da pb mb db := ⟨h.a.below hb, h.b.below hb, h.below.trans (hb.mono h.below.size), h.la, h.ne⟩
theorem T19.stepA (h : T19 w0 w pa ma da pb mb db) (h2 : DiskAt w' pa ma d2) (hd : Dw w w' pa ma) : T19 w0 w' pa ma d2 pb mb db :=
  ⟨h2, h.a.other h.b ⟨h.ne.1.symm, h.ne.2.2.1.symm, h.ne.2.1.symm, h.ne.2.2.2.symm⟩ hd, below_dw h.below hd h.la.1 h.la.2.1, h.la, h.ne⟩
theorem T19.stepB (h : T19 w0 w pa ma da pb mb db) (h2 : DiskAt w' pb mb d2) (hd : Dw w w' pb mb) : T19 w0 w' pa ma da pb mb d2 :=
  ⟨h.b.other h.a ⟨h.ne.1, h.ne.2.1, h.ne.2.2.1, h.ne.2.2.2⟩ hd, h2, below_dw h.below hd h.la.2.2.1 h.la.2.2.2, h.la, h.ne⟩
end
set_option maxRecDepth 100000 in
set_option maxHeartbeats 8000000 in
theorem diskstops_walk (l : List Ac) (A : Option Addr) (cap : Nat) (stop : Int) (w : World) (hA : Acs w w.heap.size A l) (hW : AcW l) (hcap : l.length ≤ cap) (hs : (-9223372036854775808 : Int) ≤ stop ∧ stop ≤ 9223372036854775807) :
    Calls Try.prog 7 #[.slice A l.length cap, .int .i64 stop] w fun e w' => e = .returned (.bool true) ∧ Below w.heap.size w w' := by
  have HA := Lib.hid hA; have HWL := Lib.hid hW
  have HAW := Lib.hid (awake19 w)
  obtain ⟨hs1, hs2⟩ := hs
  have hcp : l.length ≤ cap := hcap
  clear hA hW hcap
  generalize hln : l.length = n at *
  have HLN := Lib.hid hln
  clear hln
  go_enter Try.func7, Try.ntmps7
  go_wp2_with fail
  refine HAW.out.mono ?_
  rintro e w1 ⟨rfl, hb1⟩
  have HB1 := Lib.hid hb1
  clear hb1 HAW
  have HN1 := Lib.hid (new_at 20000 (by decide) (by decide) w1)
  go_wp2_with fail
  refine HN1.out.mono ?_
  rintro e w2 ⟨rfl, hd2, hb2⟩
  have HD2 := Lib.hid hd2; have HB2 := Lib.hid (HB1.out.trans (hb2.mono HB1.out.size))
  have hsz := HB1.out.size
  have hlt2 := hd2.lt
  clear hd2 hb2 HN1
  have HN2 := Lib.hid (new_at 20000 (by decide) (by decide) w2)
  go_wp2_with fail
  refine HN2.out.mono ?_
  rintro e w3 ⟨rfl, hd3, hb3⟩
  have HT := Lib.hid (T19.mk (w0 := w) (HD2.out.below hb3) hd3 (HB2.out.trans (hb3.mono HB2.out.size)) ⟨by omega, by omega, by omega, by omega⟩ ⟨by omega, by omega, by omega, by omega⟩)
  clear hd3 hb3 HN2 HD2 HB2 HB1
  generalize w1.heap.size + 1 = pa at *
  generalize w1.heap.size = ma at *
  generalize w2.heap.size + 1 = pb at *
  generalize w2.heap.size = mb at *
  by_cases hn60 : 60 < n
  · have hn61 : (60 : Int) < n := by omega
    go_wp2_with fail
    go_ret
    exact ⟨rfl, HT.out.below⟩
  have hn61 : ¬ (60 : Int) < n := by omega
  by_cases hst : stop < 0
  · go_wp2_with fail
    go_ret
    exact ⟨rfl, HT.out.below⟩
  obtain ⟨s, rfl⟩ : ∃ s : Nat, stop = s := ⟨stop.toNat, by omega⟩
  have HSP := Lib.hid (stop_at HT.out.a (s : Int) hs2)
  go_wp2_with fail
  refine HSP.out.mono ?_
  rintro e w4 ⟨rfl, h4, hd4⟩
  have hst1 : (emptyDk 20000).stop (s : Int) = (⟨20000, [], s, 0⟩, 0) := by unfold Dk.stop; rw [if_neg (by omega)]; rfl
  rw [hst1] at h4 ⊢
  have HT4 := Lib.hid (HT.out.stepA h4 hd4)
  clear h4 hd4 HSP HT hst1
  have HPL := Lib.hid (plays_at HT4.out.a l n HLN.out.symm (by omega) (by show 0 ≤ 1000000000; decide) A cap w.heap.size (HA.out.below HT4.out.below) HWL.out HT4.out.below.size HT4.out.la.1 HT4.out.la.2.1)
  go_wp2_with fail
  refine HPL.out.mono ?_
  rintro e w5 ⟨⟨rfl, hok, h5⟩ | ⟨rfl, hbad⟩, hd5⟩
  case inr =>
    have HB5 := Lib.hid (below_dw HT4.out.below hd5 HT4.out.la.1 HT4.out.la.2.1)
    clear hd5 hbad
    go_wp2_with fail
    go_ret
    exact ⟨rfl, HB5.out⟩
  have HT5 := Lib.hid (HT4.out.stepA h5 hd5)
  have HOK := Lib.hid hok
  clear h5 hd5 hok HPL HT4
  have HS0 : Hid (Sim ((⟨20000, [], s, 0⟩ : Dk).plays (l.take 0)) ((emptyDk 20000).plays (l.take 0)) s) := Lib.hid ⟨rfl, rfl, rfl, rfl, by show (s : Int) = (s : Int) - ((0 : Nat) : Int); omega, Nat.zero_le _⟩
  go_wp2_with fail
  go_loopw [10] (fun iv wr => ∃ k : Nat, k ≤ n ∧ iv = .int .i64 k ∧ T19 w wr pa ma ((⟨20000, [], s, 0⟩ : Dk).plays l) pb mb ((emptyDk 20000).plays (l.take k)) ∧ Sim ((⟨20000, [], s, 0⟩ : Dk).plays (l.take k)) ((emptyDk 20000).plays (l.take k)) s) (fun iv _ => n - (intOf iv).toNat)
  case atStart => exact ⟨0, Nat.zero_le _, rfl, HT5.out, HS0.out⟩
  case round =>
    obtain ⟨k, hk, rfl, ht, hsim⟩ := hrel
    have HT6 := Lib.hid ht; have HSM := Lib.hid hsim
    have hwb : ((emptyDk 20000).plays (l.take k)).writes ≤ k := by have := plays_writes (l.take k) (emptyDk 20000); rw [List.length_take] at this; have h0 : (emptyDk 20000).writes = 0 := rfl; omega
    have HWT := Lib.hid (writes_at ht.b)
    clear ht hsim
    by_cases hgo : k < n ∧ ((emptyDk 20000).plays (l.take k)).writes < s
    · obtain ⟨hlt, hws⟩ := hgo
      have hkl : k < l.length := by rw [HLN.out]; exact hlt
      obtain ⟨b, o, rfl, hone⟩ := (HA.out.below HT6.out.below).one hkl
      have hmem : l.getD k .zero ∈ l := by rw [List.getD_eq_getElem?_getD, List.getElem?_eq_getElem hkl]; exact List.getElem_mem hkl
      have HSTEP := Lib.hid (plays_step (emptyDk 20000) l k hkl)
      have HSTA := Lib.hid (plays_step (⟨20000, [], s, 0⟩ : Dk) l k hkl)
      have HP1 := Lib.hid (fun c => plays_at HT6.out.b [l.getD k .zero] 1 rfl (by decide) (by omega) (some ⟨b, o + k * 6, none⟩) c w.heap.size hone (fun a ha => by simp at ha; subst ha; exact HWL.out _ hmem) HT6.out.below.size HT6.out.la.2.2.1 HT6.out.la.2.2.2)
      have HOK1 : Hid ([l.getD k .zero].all okA = true) := Lib.hid (by have h1 := List.all_eq_true.1 HOK.out _ hmem; simp only [List.all_cons, List.all_nil, Bool.and_true]; exact h1)
      have HNX := Lib.hid (HSM.out.play (by have := HSM.out.writes; omega) (l.getD k .zero))
      have hws2 : (((emptyDk 20000).plays (l.take k)).writes : Int) < s := by omega
      have hkc : (k : Int) + 1 ≤ cap := by omega
      have hk2 : (k : Int) ≤ cap := by omega
      clear hone hmem
      go_wp2_with fail
      refine HWT.out.mono ?_
      rintro e w7 ⟨rfl, rfl⟩
      go_wp2_with fail
      refine (HP1.out _).mono ?_
      rintro e w8 ⟨⟨rfl, _, h8⟩ | ⟨rfl, hbad⟩, hd8⟩
      case inr => rw [HOK1.out] at hbad; cases hbad
      have HT8 := Lib.hid (HT6.out.stepB h8 hd8)
      clear h8 hd8
      go_wp2_with fail
      go_roundw
      case rel => exact ⟨k + 1, by omega, by go_num, by rw [HSTEP.out]; exact HT8.out, by rw [HSTEP.out, HSTA.out]; exact HNX.out⟩
      case measure => simp [intOf]; omega
    · by_cases hlt : k < n
      · have hws : ¬ ((emptyDk 20000).plays (l.take k)).writes < s := fun h => hgo ⟨hlt, h⟩
        have hws2 : ¬ (((emptyDk 20000).plays (l.take k)).writes : Int) < s := by omega
        have HSF : Hid (Sim ((⟨20000, [], s, 0⟩ : Dk).plays l) ((emptyDk 20000).plays (l.take k)) s) := Lib.hid (by
          have h0 : Sim (⟨20000, [], s, 0⟩ : Dk) (emptyDk 20000) s := HS0.out
          have h1 := h0.all (l.take k) (l.drop k) HSM.out (.inr (by have h1 := HSM.out.writes; have h2 := HSM.out.le; omega))
          rw [List.take_append_drop] at h1
          rw [h1]
          exact HSM.out)
        clear hgo
        go_wp2_with fail
        refine HWT.out.mono ?_
        rintro e w7 ⟨rfl, rfl⟩
        clear hws hwb HWT HSM
        generalize (⟨20000, [], s, 0⟩ : Dk).plays l = da at *
        generalize (emptyDk 20000).plays (l.take k) = db at *
        have HNA := Lib.hid (names_at HT6.out.a)
        go_wp2_with fail
        refine HNA.out.mono ?_
        rintro e w7 ⟨va, rfl, hoa, hb7⟩
        obtain ⟨An, cn, rfl, hra, _, _⟩ := own_rd hoa
        have HT7 := Lib.hid (HT6.out.after hb7)
        have HRA := Lib.hid hra
        clear hoa hb7 hra HNA HT6
        have HNB := Lib.hid (names_at HT7.out.b)
        go_wp2_with fail
        refine HNB.out.mono ?_
        rintro e w8 ⟨vb, rfl, hob, hb8⟩
        rw [← HSF.out.fs] at hob
        obtain ⟨Bn, dn, rfl, hrb, _, _⟩ := own_rd hob
        have HT8 := Lib.hid (HT7.out.after hb8)
        have HRA8 := Lib.hid ((HRA.out.below hb8).more hb8.size)
        have HRB8 := Lib.hid hrb
        clear hob hb8 hrb HNB HT7 HRA
        have hct := HT8.out.a.ok.count
        have HLF : Hid (da.fs.length = (names da.fs).length) := Lib.hid (by unfold names; simp)
        generalize hm2 : da.fs.length = n2 at *
        have HM2 := Lib.hid hm2
        clear hm2
        have HWA := Lib.hid (writes_at HT8.out.a)
        have hwb2 := writes_at HT8.out.b
        rw [← HSF.out.writes] at hwb2
        have HWB := Lib.hid hwb2
        clear hwb2
        go_wp2_with fail
        refine HWA.out.mono ?_
        rintro e w9 ⟨rfl, rfl⟩
        go_wp2_with fail
        refine HWB.out.mono ?_
        rintro e w9 ⟨rfl, rfl⟩
        have HTX := Lib.hid (same_texts (names da.fs) n2 HLF.out (by omega) An Bn cn dn _ _ HRA8.out HRB8.out (Nat.le_refl _))
        go_wp2_with fail
        refine HTX.out.mono ?_
        rintro e w10 ⟨rfl, hb10⟩
        have HT10 := Lib.hid (HT8.out.after hb10)
        have HRA10 := Lib.hid ((HRA8.out.below hb10).more hb10.size)
        clear hb10 HTX HT8 HRA8 HRB8 HWA HWB
        go_wp2_with fail
        go_loopw [13, 14, 15, 16, 17] (fun iv _ _ _ _ wr => ∃ j : Nat, j ≤ n2 ∧ iv = .int .i64 j ∧ Below w10.heap.size w10 wr) (fun iv _ _ _ _ _ => n2 - (intOf iv).toNat)
        case atStart => exact ⟨0, Nat.zero_le _, rfl, Below.refl _ _⟩
        case round =>
          obtain ⟨j, hj, rfl, hb⟩ := hrel
          have HBR := Lib.hid hb
          clear hb
          have HTR := Lib.hid (HT10.out.after HBR.out)
          by_cases hlt2 : j < n2
          · obtain ⟨⟨nm, f⟩, hkf⟩ : ∃ q, da.fs[j]? = some q := ⟨_, List.getElem?_eq_getElem (by rw [HM2.out]; exact hlt2)⟩
            have hkl2 : nm.length ≤ 9223372036854775807 := HTR.out.a.key_len (nm, f) (List.mem_of_getElem? hkf)
            obtain ⟨bn, on, rfl, hbn, hnc⟩ := names_cell HRA10.out hkf
            have hnc2 := (HBR.out.cell (p := ⟨bn, on + j, none⟩) hbn).trans hnc
            have hrd : db.read nm = da.read nm := by unfold Dk.read Dk.has Dk.file; rw [HSF.out.fs]
            have hls : db.loose nm = da.loose nm := by unfold Dk.loose Dk.file; rw [HSF.out.fs]
            have HRD1 := Lib.hid (read_at HTR.out.a nm hkl2)
            clear hkf hnc
            go_wp2_with fail
            refine HRD1.out.mono ?_
            rintro e w11 ⟨Aa, ca, rfl, hba, hza, _, hb11⟩
            have HT11 := Lib.hid (HTR.out.after hb11)
            have hnc3 := (hb11.cell (p := ⟨bn, on + j, none⟩) (cell_lt hnc2)).trans hnc2
            have HBA := Lib.hid hba; have HZA := Lib.hid hza
            have HB11 := Lib.hid (HBR.out.trans (hb11.mono HBR.out.size))
            have hrd2 := read_at HT11.out.b nm hkl2
            rw [hrd] at hrd2
            have HRD2 := Lib.hid hrd2
            have HLS := Lib.hid hls
            clear hb11 hba hza hrd hrd2 hls hnc2 HRD1
            go_wp2_with fail
            refine HRD2.out.mono ?_
            rintro e w12 ⟨Ab, cb, rfl, hbb, hzb, _, hb12⟩
            have HT12 := Lib.hid (HT11.out.after hb12)
            have hnc4 := (hb12.cell (p := ⟨bn, on + j, none⟩) (cell_lt hnc3)).trans hnc3
            have HBB := Lib.hid hbb; have HZB := Lib.hid hzb
            have HBA2 := Lib.hid ((HBA.out.below hb12).more hb12.size)
            have HB12 := Lib.hid (HB11.out.trans (hb12.mono HB11.out.size))
            clear hb12 hbb hzb hnc3 HRD2 HBA HT11
            generalize (da.read nm).2 = en at *
            generalize hrb1 : (da.read nm).1 = rb at *
            clear hrb1
            have HSB : Hid (∀ W, Below w12.heap.size w12 W → Calls Try.prog 18 #[.slice Aa rb.length ca, .slice Ab rb.length cb] W fun e w' => e = .returned (.bool true) ∧ w' = W) := Lib.hid fun W hW => (same_bytes rb rb Aa Ab rb.length rb.length ca cb W w12.heap.size w12.heap.size rfl rfl (HBA2.out.below hW) HZA.out (HBB.out.below hW) HZB.out).mono fun e w' h => ⟨by rw [h.1, decide_eq_true rfl], h.2.symm⟩
            have HLA := Lib.hid fun W (hW : Below w12.heap.size w12 W) => loose_at (HT12.out.a.below hW) nm hkl2
            have HLB : Hid (∀ W, Below w12.heap.size w12 W → Calls Try.prog 38 #[.pointer (some ⟨pb, 0, none⟩), .string (str nm)] W fun e w' => e = .returned (.int .i64 (da.loose nm : Nat)) ∧ Below W.heap.size W w') := Lib.hid fun W hW => by
              have h := loose_at (HT12.out.b.below hW) nm hkl2
              rw [HLS.out] at h
              exact h
            have HNC : Hid (∀ W, Below w12.heap.size w12 W → W.cell? ⟨bn, on + j, none⟩ = some (.string (str nm))) := Lib.hid fun W hW => (hW.cell (p := ⟨bn, on + j, none⟩) (cell_lt hnc4)).trans hnc4
            clear hnc4
            generalize da.loose nm = ls at *
            go_upto_region 23 with (fail)
            apply wp_region_relH (H := []) 19 [(Sum.inl _ : TT), (Sum.inl _ : TT), (Sum.inl _ : TT), (Sum.inl _ : TT), (Sum.inl _ : TT), (Sum.inl _ : TT), (Sum.inl _ : TT), (Sum.inl _ : TT), (Sum.inl _ : TT), (Sum.inl _ : TT), (Sum.inl _ : TT), (Sum.inl _ : TT), (Sum.inl _ : TT), (Sum.inl _ : TT), (Sum.inl _ : TT), (Sum.inl _ : TT), (Sum.inl _ : TT), (Sum.inl _ : TT), (Sum.inl _ : TT)] (by kernel_rfl) (by kernel_rfl) (fun _ _ _ _ _ h => h) rfl
            simp only [List.take_succ_cons, List.take_zero, List.drop_succ_cons, List.drop_zero]
            iterate 2 (apply rel_isS; (intro W hW hf; go_simp; first | exact ⟨StayS.refl _ _, rfl⟩ | rfl); simp only [Act.put, List.setIfInBounds_toArray, List.set_cons_succ, List.set_cons_zero])
            apply rel_isS
            · intro W hW hf
              exact rel_callS hW rfl (by go_simp <;> first | rfl | exact ⟨rfl, rfl⟩ | exact ⟨rfl, rfl, rfl⟩) ((HSB.out W hW).mono fun e w'' h => ⟨_, h.1, h.2 ▸ Below.refl _ _, rfl⟩)
            simp only [Act.put, List.setIfInBounds_toArray, List.set_cons_succ, List.set_cons_zero]
            iterate 7 (apply rel_isS; (intro W hW hf; have hx := HNC.out W hW; go_simp; first | exact ⟨StayS.refl _ _, rfl⟩ | rfl); simp only [Act.put, List.setIfInBounds_toArray, List.set_cons_succ, List.set_cons_zero])
            apply rel_isS
            · intro W hW hf
              exact rel_callS hW (by first | rfl | (go_simp; done) | (go_simp; simp)) (by go_simp <;> first | rfl | exact ⟨rfl, rfl⟩ | exact ⟨rfl, rfl, rfl⟩) ((HLA.out W hW).mono fun e w'' h => ⟨_, h.1, h.2, rfl⟩)
            simp only [Act.put, List.setIfInBounds_toArray, List.set_cons_succ, List.set_cons_zero]
            iterate 5 (apply rel_isS; (intro W hW hf; have hx := HNC.out W hW; go_simp; first | exact ⟨StayS.refl _ _, rfl⟩ | rfl); simp only [Act.put, List.setIfInBounds_toArray, List.set_cons_succ, List.set_cons_zero])
            apply rel_isS
            · intro W hW hf
              exact rel_callS hW (by first | rfl | (go_simp; done) | (go_simp; simp)) (by go_simp <;> first | rfl | exact ⟨rfl, rfl⟩ | exact ⟨rfl, rfl, rfl⟩) ((HLB.out W hW).mono fun e w'' h => ⟨_, h.1, h.2, rfl⟩)
            simp only [Act.put, List.setIfInBounds_toArray, List.set_cons_succ, List.set_cons_zero]
            iterate 2 (apply rel_isS; (intro W hW hf; go_simp; first | exact ⟨StayS.refl _ _, rfl⟩ | rfl); simp only [Act.put, List.setIfInBounds_toArray, List.set_cons_succ, List.set_cons_zero])
            refine rel_endS ?_
            intro W hW hf
            try simp only [Act.put, List.setIfInBounds_toArray, List.set_cons_succ, List.set_cons_zero]
            refine wpList_nil ?_
            have HW := Lib.hid (HB12.out.trans (hW.mono HB12.out.size))
            clear hW hf
            go_wp2_with fail
            go_roundw
            case rel => exact ⟨j + 1, by omega, by go_num, HW.out⟩
            case measure => simp [intOf]; omega
          · have HST := stopped_at HTR.out.a
            have HWR := Lib.hid (writes_at HTR.out.a)
            by_cases hq : da.writes = s
            · have hq1 : da.left = 0 := by have := HSF.out.la; omega
              rw [decide_eq_true hq1] at HST
              have HST2 := Lib.hid HST
              have hq2 : ((da.writes : Int) == (s : Int)) = true := by rw [hq]; simp
              clear HST hq hq1
              go_wp2_with fail
              refine HST2.out.mono ?_
              rintro e w13 ⟨rfl, rfl⟩
              go_wp2_with fail
              refine HWR.out.mono ?_
              rintro e w13 ⟨rfl, rfl⟩
              go_wp2_with fail
              go_ret
              exact ⟨rfl, HTR.out.below⟩
            · have hq1 : ¬ da.left = 0 := by have := HSF.out.la; have := HSF.out.le; omega
              rw [decide_eq_false hq1] at HST
              have HST2 := Lib.hid HST
              have hq2 : ((da.writes : Int) == (s : Int)) = false := by simpa using fun h => hq (by omega)
              clear HST hq hq1
              go_wp2_with fail
              refine HST2.out.mono ?_
              rintro e w13 ⟨rfl, rfl⟩
              go_wp2_with fail
              refine HWR.out.mono ?_
              rintro e w13 ⟨rfl, rfl⟩
              go_wp2_with fail
              go_ret
              exact ⟨rfl, HTR.out.below⟩
      · obtain rfl : k = n := by omega
        have HSF : Hid (Sim ((⟨20000, [], s, 0⟩ : Dk).plays l) ((emptyDk 20000).plays (l.take k)) s) := Lib.hid (by
          have h0 : Sim (⟨20000, [], s, 0⟩ : Dk) (emptyDk 20000) s := HS0.out
          have h1 := h0.all (l.take k) (l.drop k) HSM.out (.inl (List.drop_of_length_le (by rw [HLN.out]; exact Nat.le_refl _)))
          rw [List.take_append_drop] at h1
          rw [h1]
          exact HSM.out)
        clear hgo hwb HWT HSM
        generalize (⟨20000, [], s, 0⟩ : Dk).plays l = da at *
        generalize (emptyDk 20000).plays (l.take k) = db at *
        have HNA := Lib.hid (names_at HT6.out.a)
        go_wp2_with fail
        refine HNA.out.mono ?_
        rintro e w7 ⟨va, rfl, hoa, hb7⟩
        obtain ⟨An, cn, rfl, hra, _, _⟩ := own_rd hoa
        have HT7 := Lib.hid (HT6.out.after hb7)
        have HRA := Lib.hid hra
        clear hoa hb7 hra HNA HT6
        have HNB := Lib.hid (names_at HT7.out.b)
        go_wp2_with fail
        refine HNB.out.mono ?_
        rintro e w8 ⟨vb, rfl, hob, hb8⟩
        rw [← HSF.out.fs] at hob
        obtain ⟨Bn, dn, rfl, hrb, _, _⟩ := own_rd hob
        have HT8 := Lib.hid (HT7.out.after hb8)
        have HRA8 := Lib.hid ((HRA.out.below hb8).more hb8.size)
        have HRB8 := Lib.hid hrb
        clear hob hb8 hrb HNB HT7 HRA
        have hct := HT8.out.a.ok.count
        have HLF : Hid (da.fs.length = (names da.fs).length) := Lib.hid (by unfold names; simp)
        generalize hm2 : da.fs.length = n2 at *
        have HM2 := Lib.hid hm2
        clear hm2
        have HWA := Lib.hid (writes_at HT8.out.a)
        have hwb2 := writes_at HT8.out.b
        rw [← HSF.out.writes] at hwb2
        have HWB := Lib.hid hwb2
        clear hwb2
        go_wp2_with fail
        refine HWA.out.mono ?_
        rintro e w9 ⟨rfl, rfl⟩
        go_wp2_with fail
        refine HWB.out.mono ?_
        rintro e w9 ⟨rfl, rfl⟩
        have HTX := Lib.hid (same_texts (names da.fs) n2 HLF.out (by omega) An Bn cn dn _ _ HRA8.out HRB8.out (Nat.le_refl _))
        go_wp2_with fail
        refine HTX.out.mono ?_
        rintro e w10 ⟨rfl, hb10⟩
        have HT10 := Lib.hid (HT8.out.after hb10)
        have HRA10 := Lib.hid ((HRA8.out.below hb10).more hb10.size)
        clear hb10 HTX HT8 HRA8 HRB8 HWA HWB
        go_wp2_with fail
        go_loopw [13, 14, 15, 16, 17] (fun iv _ _ _ _ wr => ∃ j : Nat, j ≤ n2 ∧ iv = .int .i64 j ∧ Below w10.heap.size w10 wr) (fun iv _ _ _ _ _ => n2 - (intOf iv).toNat)
        case atStart => exact ⟨0, Nat.zero_le _, rfl, Below.refl _ _⟩
        case round =>
          obtain ⟨j, hj, rfl, hb⟩ := hrel
          have HBR := Lib.hid hb
          clear hb
          have HTR := Lib.hid (HT10.out.after HBR.out)
          by_cases hlt2 : j < n2
          · obtain ⟨⟨nm, f⟩, hkf⟩ : ∃ q, da.fs[j]? = some q := ⟨_, List.getElem?_eq_getElem (by rw [HM2.out]; exact hlt2)⟩
            have hkl2 : nm.length ≤ 9223372036854775807 := HTR.out.a.key_len (nm, f) (List.mem_of_getElem? hkf)
            obtain ⟨bn, on, rfl, hbn, hnc⟩ := names_cell HRA10.out hkf
            have hnc2 := (HBR.out.cell (p := ⟨bn, on + j, none⟩) hbn).trans hnc
            have hrd : db.read nm = da.read nm := by unfold Dk.read Dk.has Dk.file; rw [HSF.out.fs]
            have hls : db.loose nm = da.loose nm := by unfold Dk.loose Dk.file; rw [HSF.out.fs]
            have HRD1 := Lib.hid (read_at HTR.out.a nm hkl2)
            clear hkf hnc
            go_wp2_with fail
            refine HRD1.out.mono ?_
            rintro e w11 ⟨Aa, ca, rfl, hba, hza, _, hb11⟩
            have HT11 := Lib.hid (HTR.out.after hb11)
            have hnc3 := (hb11.cell (p := ⟨bn, on + j, none⟩) (cell_lt hnc2)).trans hnc2
            have HBA := Lib.hid hba; have HZA := Lib.hid hza
            have HB11 := Lib.hid (HBR.out.trans (hb11.mono HBR.out.size))
            have hrd2 := read_at HT11.out.b nm hkl2
            rw [hrd] at hrd2
            have HRD2 := Lib.hid hrd2
            have HLS := Lib.hid hls
            clear hb11 hba hza hrd hrd2 hls hnc2 HRD1
            go_wp2_with fail
            refine HRD2.out.mono ?_
            rintro e w12 ⟨Ab, cb, rfl, hbb, hzb, _, hb12⟩
            have HT12 := Lib.hid (HT11.out.after hb12)
            have hnc4 := (hb12.cell (p := ⟨bn, on + j, none⟩) (cell_lt hnc3)).trans hnc3
            have HBB := Lib.hid hbb; have HZB := Lib.hid hzb
            have HBA2 := Lib.hid ((HBA.out.below hb12).more hb12.size)
            have HB12 := Lib.hid (HB11.out.trans (hb12.mono HB11.out.size))
            clear hb12 hbb hzb hnc3 HRD2 HBA HT11
            generalize (da.read nm).2 = en at *
            generalize hrb1 : (da.read nm).1 = rb at *
            clear hrb1
            have HSB : Hid (∀ W, Below w12.heap.size w12 W → Calls Try.prog 18 #[.slice Aa rb.length ca, .slice Ab rb.length cb] W fun e w' => e = .returned (.bool true) ∧ w' = W) := Lib.hid fun W hW => (same_bytes rb rb Aa Ab rb.length rb.length ca cb W w12.heap.size w12.heap.size rfl rfl (HBA2.out.below hW) HZA.out (HBB.out.below hW) HZB.out).mono fun e w' h => ⟨by rw [h.1, decide_eq_true rfl], h.2.symm⟩
            have HLA := Lib.hid fun W (hW : Below w12.heap.size w12 W) => loose_at (HT12.out.a.below hW) nm hkl2
            have HLB : Hid (∀ W, Below w12.heap.size w12 W → Calls Try.prog 38 #[.pointer (some ⟨pb, 0, none⟩), .string (str nm)] W fun e w' => e = .returned (.int .i64 (da.loose nm : Nat)) ∧ Below W.heap.size W w') := Lib.hid fun W hW => by
              have h := loose_at (HT12.out.b.below hW) nm hkl2
              rw [HLS.out] at h
              exact h
            have HNC : Hid (∀ W, Below w12.heap.size w12 W → W.cell? ⟨bn, on + j, none⟩ = some (.string (str nm))) := Lib.hid fun W hW => (hW.cell (p := ⟨bn, on + j, none⟩) (cell_lt hnc4)).trans hnc4
            clear hnc4
            generalize da.loose nm = ls at *
            go_upto_region 23 with (fail)
            apply wp_region_relH (H := []) 19 [(Sum.inl _ : TT), (Sum.inl _ : TT), (Sum.inl _ : TT), (Sum.inl _ : TT), (Sum.inl _ : TT), (Sum.inl _ : TT), (Sum.inl _ : TT), (Sum.inl _ : TT), (Sum.inl _ : TT), (Sum.inl _ : TT), (Sum.inl _ : TT), (Sum.inl _ : TT), (Sum.inl _ : TT), (Sum.inl _ : TT), (Sum.inl _ : TT), (Sum.inl _ : TT), (Sum.inl _ : TT), (Sum.inl _ : TT), (Sum.inl _ : TT)] (by kernel_rfl) (by kernel_rfl) (fun _ _ _ _ _ h => h) rfl
            simp only [List.take_succ_cons, List.take_zero, List.drop_succ_cons, List.drop_zero]
            iterate 2 (apply rel_isS; (intro W hW hf; go_simp; first | exact ⟨StayS.refl _ _, rfl⟩ | rfl); simp only [Act.put, List.setIfInBounds_toArray, List.set_cons_succ, List.set_cons_zero])
            apply rel_isS
            · intro W hW hf
              exact rel_callS hW rfl (by go_simp <;> first | rfl | exact ⟨rfl, rfl⟩ | exact ⟨rfl, rfl, rfl⟩) ((HSB.out W hW).mono fun e w'' h => ⟨_, h.1, h.2 ▸ Below.refl _ _, rfl⟩)
            simp only [Act.put, List.setIfInBounds_toArray, List.set_cons_succ, List.set_cons_zero]
            iterate 7 (apply rel_isS; (intro W hW hf; have hx := HNC.out W hW; go_simp; first | exact ⟨StayS.refl _ _, rfl⟩ | rfl); simp only [Act.put, List.setIfInBounds_toArray, List.set_cons_succ, List.set_cons_zero])
            apply rel_isS
            · intro W hW hf
              exact rel_callS hW (by first | rfl | (go_simp; done) | (go_simp; simp)) (by go_simp <;> first | rfl | exact ⟨rfl, rfl⟩ | exact ⟨rfl, rfl, rfl⟩) ((HLA.out W hW).mono fun e w'' h => ⟨_, h.1, h.2, rfl⟩)
            simp only [Act.put, List.setIfInBounds_toArray, List.set_cons_succ, List.set_cons_zero]
            iterate 5 (apply rel_isS; (intro W hW hf; have hx := HNC.out W hW; go_simp; first | exact ⟨StayS.refl _ _, rfl⟩ | rfl); simp only [Act.put, List.setIfInBounds_toArray, List.set_cons_succ, List.set_cons_zero])
            apply rel_isS
            · intro W hW hf
              exact rel_callS hW (by first | rfl | (go_simp; done) | (go_simp; simp)) (by go_simp <;> first | rfl | exact ⟨rfl, rfl⟩ | exact ⟨rfl, rfl, rfl⟩) ((HLB.out W hW).mono fun e w'' h => ⟨_, h.1, h.2, rfl⟩)
            simp only [Act.put, List.setIfInBounds_toArray, List.set_cons_succ, List.set_cons_zero]
            iterate 2 (apply rel_isS; (intro W hW hf; go_simp; first | exact ⟨StayS.refl _ _, rfl⟩ | rfl); simp only [Act.put, List.setIfInBounds_toArray, List.set_cons_succ, List.set_cons_zero])
            refine rel_endS ?_
            intro W hW hf
            try simp only [Act.put, List.setIfInBounds_toArray, List.set_cons_succ, List.set_cons_zero]
            refine wpList_nil ?_
            have HW := Lib.hid (HB12.out.trans (hW.mono HB12.out.size))
            clear hW hf
            go_wp2_with fail
            go_roundw
            case rel => exact ⟨j + 1, by omega, by go_num, HW.out⟩
            case measure => simp [intOf]; omega
          · have HST := stopped_at HTR.out.a
            have HWR := Lib.hid (writes_at HTR.out.a)
            by_cases hq : da.writes = s
            · have hq1 : da.left = 0 := by have := HSF.out.la; omega
              rw [decide_eq_true hq1] at HST
              have HST2 := Lib.hid HST
              have hq2 : ((da.writes : Int) == (s : Int)) = true := by rw [hq]; simp
              clear HST hq hq1
              go_wp2_with fail
              refine HST2.out.mono ?_
              rintro e w13 ⟨rfl, rfl⟩
              go_wp2_with fail
              refine HWR.out.mono ?_
              rintro e w13 ⟨rfl, rfl⟩
              go_wp2_with fail
              go_ret
              exact ⟨rfl, HTR.out.below⟩
            · have hq1 : ¬ da.left = 0 := by have := HSF.out.la; have := HSF.out.le; omega
              rw [decide_eq_false hq1] at HST
              have HST2 := Lib.hid HST
              have hq2 : ((da.writes : Int) == (s : Int)) = false := by simpa using fun h => hq (by omega)
              clear HST hq hq1
              go_wp2_with fail
              refine HST2.out.mono ?_
              rintro e w13 ⟨rfl, rfl⟩
              go_wp2_with fail
              refine HWR.out.mono ?_
              rintro e w13 ⟨rfl, rfl⟩
              go_wp2_with fail
              go_ret
              exact ⟨rfl, HTR.out.below⟩
end Go.Proofs.Ytjbpgjfnccmdaaa
