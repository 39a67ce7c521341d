/- DiskKeeps. -/
import Derived.Test.YtjbpgjfnccmdaaaNr
set_option linter.unusedSimpArgs false
set_option linter.unusedVariables false
namespace Go.Proofs.Ytjbpgjfnccmdaaa
open Go.RowKit

set_option maxRecDepth 100000 in
set_option maxHeartbeats 8000000 in
theorem diskkeeps_walk (l : List Ac) (A : Option Addr) (cap : Nat) (stop : Int) (t : List Int) (T : Option Addr) (tc : Nat) (w : World) (hA : Acs w w.heap.size A l) (hW : AcW l) (hcap : l.length ≤ cap) (hs : (-9223372036854775808 : Int) ≤ stop ∧ stop ≤ 9223372036854775807)
    (hT : Zs w w.heap.size T t) (hT0 : T = none → t.length = 0) (hTl : t.length ≤ 140737488351232) (hTc : t.length ≤ tc) (hTw : Zw t) :
    Calls Try.prog 8 #[.slice A l.length cap, .int .i64 stop, .slice T t.length tc] w fun e w' => e = .returned (.bool true) ∧ Below w.heap.size w w' := by
  have HA := Lib.hid hA; have HWL := Lib.hid hW; have HT := Lib.hid hT
  have HAW := Lib.hid (awake19 w)
  obtain ⟨hs1, hs2⟩ := hs
  clear hA hW hcap hT hT0 hTc hTw
  generalize hln : l.length = n at *
  have HLN := Lib.hid hln
  clear hln
  generalize htn : t.length = tn at *
  have HTN := Lib.hid htn
  clear htn
  go_enter Try.func8, Try.ntmps8
  go_wp2_with fail
  refine HAW.out.mono ?_
  rintro e w1 ⟨rfl, hb1⟩
  have HB1 := Lib.hid hb1
  clear hb1 HAW
  have HN1 := Lib.hid (new_at 20000 (by decide) (by decide) w1)
  go_wp2_with fail
  refine HN1.out.mono ?_
  rintro e w2 ⟨rfl, hd2, hb2⟩
  have hsz := HB1.out.size
  have HD2 := Lib.hid (D19.mk (w0 := w) hd2 (HB1.out.trans (hb2.mono HB1.out.size)) (by omega) (by omega))
  clear hd2 hb2 HN1 HB1
  generalize w1.heap.size + 1 = pa at *
  generalize w1.heap.size = ma at *
  by_cases hn60 : 60 < n
  · have hn61 : (60 : Int) < n := by omega
    go_wp2_with fail
    go_ret
    exact ⟨rfl, HD2.out.below⟩
  have hn61 : ¬ (60 : Int) < n := by omega
  by_cases hst : stop < 0
  · go_wp2_with fail
    go_ret
    exact ⟨rfl, HD2.out.below⟩
  have HSP := Lib.hid (stop_at HD2.out.disk stop hs2)
  go_wp2_with fail
  refine HSP.out.mono ?_
  rintro e w4 ⟨rfl, h4, hd4⟩
  have HD4 := Lib.hid (HD2.out.step h4 hd4)
  have hwr4 : ((emptyDk 20000).stop stop).1.writes ≤ 1000000000 := by unfold Dk.stop; split <;> (show 0 ≤ 1000000000; decide)
  clear h4 hd4 HSP HD2
  generalize (emptyDk 20000).stop stop = d4 at *
  have HPL := Lib.hid (plays_at HD4.out.disk l n HLN.out.symm (by omega) hwr4 A cap w.heap.size (HA.out.below HD4.out.below) HWL.out HD4.out.below.size HD4.out.hp HD4.out.hm)
  go_wp2_with fail
  refine HPL.out.mono ?_
  rintro e w5 ⟨⟨rfl, hok, h5⟩ | ⟨rfl, hbad⟩, hd5⟩
  case inr =>
    have HB5 := Lib.hid (below_dw HD4.out.below hd5 HD4.out.hp HD4.out.hm)
    clear hd5 hbad
    go_wp2_with fail
    go_ret
    exact ⟨rfl, HB5.out⟩
  have HD5 := Lib.hid (HD4.out.step h5 hd5)
  clear h5 hd5 hok HPL HD4
  generalize d4.1.plays l = dk at *
  have HCL := Lib.hid (clone_at HD5.out.disk)
  go_wp2_with fail
  refine HCL.out.mono ?_
  rintro e w6 ⟨pb, mb, rfl, h6, hb6, hpb, hmb⟩
  have hltp := HD5.out.disk.lt
  have hltm := HD5.out.disk.ltm
  have hsz5 := HD5.out.below.size
  have HT6 := Lib.hid (T19.mk (w0 := w) (HD5.out.disk.below hb6) h6 (HD5.out.below.trans (hb6.mono HD5.out.below.size)) ⟨HD5.out.hp, HD5.out.hm, by omega, by omega⟩ ⟨by omega, by omega, by omega, by omega⟩)
  clear h6 hb6 hpb hmb HCL HD5 hltp hltm hsz5
  have HCR := Lib.hid (crash_at HT6.out.a HT6.out.a.key_len t tn HTN.out.symm (by omega) T tc ((HT.out.below HT6.out.below).more HT6.out.below.size))
  go_wp2_with fail
  refine HCR.out.mono ?_
  rintro e w7 ⟨rfl, h7, hd7⟩
  have HT7 := Lib.hid (HT6.out.stepA h7 hd7)
  clear h7 hd7 HCR HT6
  have hsp := stopped_at HT7.out.a
  rw [decide_eq_false (show ¬ (dk.crash t).left = 0 from by show ¬ (-1 : Int) = 0; decide)] at hsp
  have HSTP := Lib.hid hsp
  clear hsp
  go_wp2_with fail
  refine HSTP.out.mono ?_
  rintro e w8 ⟨rfl, rfl⟩
  have HNA := Lib.hid (names_at HT7.out.b)
  go_wp2_with fail
  refine HNA.out.mono ?_
  rintro e w9 ⟨va, rfl, hoa, hb9⟩
  obtain ⟨An, cn, rfl, hra, _, _⟩ := own_rd hoa
  have HT9 := Lib.hid (HT7.out.after hb9)
  have HRA := Lib.hid hra
  clear hoa hb9 hra HNA HT7 HSTP
  have hct := HT9.out.b.ok.count
  generalize hm2 : dk.fs.length = n2 at *
  have HM2 := Lib.hid hm2
  clear hm2
  go_wp2_with fail
  go_loopw [12, 13, 14, 15, 16, 17, 18] (fun tv iv _ _ _ _ _ wr => ∃ j : Nat, j ≤ n2 ∧ iv = .int .i64 j ∧ (crashL (dk.fs.take j) t).length ≤ j ∧ tv = .int .i64 ((crashL (dk.fs.take j) t).length : Nat) ∧ Below w9.heap.size w9 wr) (fun _ iv _ _ _ _ _ _ => n2 - (intOf iv).toNat)
  case atStart => exact ⟨0, Nat.zero_le _, rfl, Nat.le_refl _, rfl, Below.refl _ _⟩
  case round =>
    obtain ⟨j, hj, rfl, hcj, rfl, hb⟩ := hrel
    have HBR := Lib.hid hb
    clear hb
    have HTR := Lib.hid (HT9.out.after HBR.out)
    by_cases hlt2 : j < n2
    · obtain ⟨⟨nm, f⟩, hkf⟩ : ∃ q, dk.fs[j]? = some q := ⟨_, List.getElem?_eq_getElem (by rw [HM2.out]; exact hlt2)⟩
      have hkl2 : nm.length ≤ 9223372036854775807 := HTR.out.b.key_len (nm, f) (List.mem_of_getElem? hkf)
      obtain ⟨bn, on, rfl, hbn, hnc⟩ := names_cell HRA.out hkf
      have hnc2 := (HBR.out.cell (p := ⟨bn, on + j, none⟩) hbn).trans hnc
      obtain ⟨k1, k2, k3, k4, k5, k6⟩ := keeps_plain HTR.out.b.ok t hkf
      have hrb := read_at HTR.out.b nm hkl2
      rw [k1] at hrb
      have HRB := Lib.hid hrb
      have HK2 := Lib.hid k2; have HK3 := Lib.hid k3; have HK6 := Lib.hid k6
      clear hkf hnc k1 k2 k3 k6 hrb
      go_wp2_with fail
      refine HRB.out.mono ?_
      rintro e w11 ⟨Ab, cb, rfl, hbb, hzb, hcb, hb11⟩
      have HT11 := Lib.hid (HTR.out.after hb11)
      have hnc3 := (hb11.cell (p := ⟨bn, on + j, none⟩) (cell_lt hnc2)).trans hnc2
      have HBB : Hid (Bs w11 w11.heap.size Ab f.b) := Lib.hid hbb
      have HZB : Hid (Ab = none → f.b = []) := Lib.hid hzb
      have hcb2 : f.b.length ≤ cb := hcb
      have HB11 := Lib.hid (HBR.out.trans (hb11.mono HBR.out.size))
      clear hb11 hbb hzb hnc2 HRB hcb
      have HRD := Lib.hid (read_at HT11.out.a nm hkl2)
      go_wp2_with fail
      refine HRD.out.mono ?_
      rintro e w12 ⟨Aa, ca, rfl, hba, hza, hca, hb12⟩
      have HT12 := Lib.hid (HT11.out.after hb12)
      have hnc4 := (hb12.cell (p := ⟨bn, on + j, none⟩) (cell_lt hnc3)).trans hnc3
      have HBB2 := Lib.hid ((HBB.out.below hb12).more hb12.size)
      have HB12 := Lib.hid (HB11.out.trans (hb12.mono HB11.out.size))
      have HBA := Lib.hid hba; have HZA := Lib.hid hza; have HCA := Lib.hid hca
      clear hb12 hnc3 HRD HBB HT11 hba hza hca HB11
      have hl3 := loose_at HT12.out.a nm hkl2
      rw [HK3.out] at hl3
      have HL3 := Lib.hid hl3
      clear hl3
      go_wp2_with fail
      refine HL3.out.mono ?_
      rintro e w13 ⟨rfl, hb13⟩
      have HT13 := Lib.hid (HT12.out.after hb13)
      have hnc5 := (hb13.cell (p := ⟨bn, on + j, none⟩) (cell_lt hnc4)).trans hnc4
      have HBB3 := Lib.hid ((HBB2.out.below hb13).more hb13.size)
      have HBA3 := Lib.hid ((HBA.out.below hb13).more hb13.size)
      have HB13 := Lib.hid (HB12.out.trans (hb13.mono HB12.out.size))
      clear hb13 hnc4 HL3 HBB2 HBA HT12 HB12
      have hl4 := loose_at HT13.out.b nm hkl2
      rw [HK2.out] at hl4
      have HL4 := Lib.hid hl4
      have hsub : IntKind.i64.wrap ((f.b.length : Int) - ((f.b.length - f.safe : Nat) : Int)) = (f.safe : Int) := by rw [wi64 _ (by omega) (by omega)]; omega
      have hscb : f.safe ≤ cb := by omega
      clear hl4
      go_wp2_with fail
      refine HL4.out.mono ?_
      rintro e w14 ⟨rfl, hb14⟩
      have HT14 := Lib.hid (HT13.out.after hb14)
      have HBB4 := Lib.hid ((HBB3.out.below hb14).more hb14.size)
      have HBA4 := Lib.hid ((HBA3.out.below hb14).more hb14.size)
      have HB14 := Lib.hid (HB13.out.trans (hb14.mono HB13.out.size))
      clear hb14 hnc5 HL4 HBB3 HBA3 HT13 HB13
      have hk6 := HK6.out
      clear HK6 HK2 HK3
      generalize (dk.crash t).read nm = rr at *
      obtain ⟨ra, re⟩ := rr
      have HBA5 : Hid (Bs w14 w14.heap.size Aa ra) := Lib.hid HBA4.out
      have HZA5 : Hid (Aa = none → ra = []) := Lib.hid HZA.out
      have HCA5 : Hid (ra.length ≤ ca) := Lib.hid HCA.out
      clear HBA4 HZA HCA
      rcases hk6 with ⟨hr6, hs0, hcnt⟩ | ⟨x, hx1, hx2, hr6, hcnt⟩
      · injection hr6 with h1 h2
        subst h1 h2
        have hs2 : ((f.safe : Int) == 0) = true := by rw [hs0]; rfl
        have HCNT := Lib.hid hcnt
        clear hs0 hcnt
        go_wp2_with fail
        go_roundw
        case rel => exact ⟨j + 1, by omega, by go_num, by rw [HCNT.out]; omega, by rw [HCNT.out], HB14.out⟩
        case measure => simp [intOf]; omega
      · injection hr6 with h1 h2
        subst h2
        have HRA2 := Lib.hid h1
        have HCNT := Lib.hid hcnt
        have hlen2 : ra.length = x := by rw [h1, List.length_take]; omega
        have HBG1 := Lib.hid (begins_at ra (f.b.take f.safe) ra.length f.safe rfl (by rw [List.length_take]; omega) Aa Ab ca cb w14 HBA5.out HZA5.out (HBB4.out.take f.safe) (fun h => by rw [HZB.out h]; simp) (by omega) HCA5.out (by rw [h1, List.take_take]; congr 1; omega))
        have HBG2 := Lib.hid (begins_at f.b ra f.b.length ra.length rfl rfl Ab Aa cb ca w14 HBB4.out HZB.out HBA5.out HZA5.out (by omega) hcb2 (by rw [hlen2]; exact h1.symm))
        clear hcnt h1 hlen2
        go_wp2_with fail
        refine HBG1.out.mono ?_
        rintro e w15 ⟨rfl, rfl⟩
        go_wp2_with fail
        refine HBG2.out.mono ?_
        rintro e w15 ⟨rfl, rfl⟩
        go_wp2_with fail
        go_roundw
        case rel => exact ⟨j + 1, by omega, by go_num, by rw [HCNT.out]; omega, by rw [HCNT.out]; go_num, HB14.out⟩
        case measure => simp [intOf]; omega
    · obtain rfl : j = n2 := by omega
      have htk : dk.fs.take j = dk.fs := List.take_of_length_le (by rw [HM2.out]; exact Nat.le_refl _)
      rw [htk]
      have hne := names_at HTR.out.a
      have hcl : (dk.crash t).fs.length = (crashL dk.fs t).length := rfl
      rw [hcl] at hne
      have HNE := Lib.hid hne
      clear hne hcl htk hcj
      go_wp2_with fail
      refine HNE.out.mono ?_
      rintro e w16 ⟨vz, rfl, hoz, hb16⟩
      obtain ⟨Az, cz, rfl, _, _, _⟩ := own_rd hoz
      have HT16 := Lib.hid (HTR.out.after hb16)
      clear hoz hb16
      generalize (crashL dk.fs t).length = nz at *
      go_wp2_with fail
      go_ret
      exact ⟨rfl, HT16.out.below⟩
end Go.Proofs.Ytjbpgjfnccmdaaa
