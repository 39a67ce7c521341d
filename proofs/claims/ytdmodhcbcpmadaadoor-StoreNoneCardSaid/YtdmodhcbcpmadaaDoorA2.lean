/- store.named, there, remove (named: turned out of XNa by hand). -/
import Derived.Test.YtdmodhcbcpmadaaDoorA1
import Derived.Test.YtdmodhcbcpmadaaDoorNc
set_option linter.unusedSimpArgs false
set_option linter.unusedVariables false
namespace Go.Proofs.YtdmodhcbcpmadaaDoor
open Go.RowKit

def baseOk (l : Nm) : Bool := decide (1 ≤ l.length) && decide (l.length ≤ 20) && l.all okc
set_option maxRecDepth 100000 in
set_option maxHeartbeats 4000000 in
theorem storename_any (l : Nm) (hl : l.length ≤ 1000000000) (w : World) : Calls Tryd.prog 14 #[.string (str l)] w fun e w' => e = .returned (.bool (baseOk l)) ∧ w' = w := by
  have hs := str_len l
  have hix := fun k h => run_index_str (P := Tryd.prog) w 9 Tryd.underlying9 l k h
  have HIX := Lib.hid hix
  clear hix
  go_enter Tryd.func14, Tryd.ntmps14
  go_wp2_with fail
  go_loopw [3, 4, 7] (fun _ _ iv wr => ∃ k : Nat, k ≤ l.length ∧ iv = .int .i64 k ∧ (l.take k).all okc = true ∧ w = wr) (fun _ _ iv _ => l.length - (intOf iv).toNat)
  case atStart => exact ⟨0, by omega, rfl, by simp, rfl⟩
  case round =>
    obtain ⟨k, hk, rfl, hall, rfl⟩ := hrel
    have HALL := Lib.hid hall
    clear hall
    by_cases hlt : k < l.length
    · have hix := HIX.out k hlt
      have Htk : Hid ((l.take (k + 1)).all okc = okc (l.getD k 0)) := Lib.hid (by
        rw [List.take_succ_eq_append_getElem hlt, List.all_append, HALL.out]
        simp [List.getD_eq_getElem?_getD, hlt])
      have Hbad : Hid (okc (l.getD k 0) = false → baseOk l = false) := Lib.hid (fun hz => by
        have : l.all okc = false := by
          rw [List.all_eq_false]
          exact ⟨l.getD k 0, by simp [List.getD_eq_getElem?_getD, hlt], by rw [hz]; decide⟩
        unfold baseOk; rw [this]; simp)
      have hz : ∀ z, (decide (97 ≤ (l.getD k 0).toNat ∧ (l.getD k 0).toNat ≤ 122) || decide (48 ≤ (l.getD k 0).toNat ∧ (l.getD k 0).toNat ≤ 57) || decide ((l.getD k 0).toNat = 46) || decide ((l.getD k 0).toNat = 45)) = z → okc (l.getD k 0) = z := fun z h => h
      generalize okc (l.getD k 0) = y at *
      generalize (l.getD k 0).toNat = n at *
      have hcase : n < 45 ∨ n = 45 ∨ n = 46 ∨ n = 47 ∨ (48 ≤ n ∧ n ≤ 57) ∨ (58 ≤ n ∧ n ≤ 96) ∨ (97 ≤ n ∧ n ≤ 122) ∨ 123 ≤ n := by omega
      rcases hcase with h | rfl | rfl | rfl | ⟨h, h'⟩ | ⟨h, h'⟩ | ⟨h, h'⟩ | h
      · obtain rfl := hz false (by simp; omega)
        clear hz
        have f0 : (n : Int) < 97 := by first | omega | (rw [bne_iff_ne]; omega)
        have f1 : (n : Int) < 48 := by first | omega | (rw [bne_iff_ne]; omega)
        have f2 : ((n : Int) != 46) = true := by first | omega | (rw [bne_iff_ne]; omega)
        have f3 : ((n : Int) != 45) = true := by first | omega | (rw [bne_iff_ne]; omega)
        have Hb := Lib.hid (Hbad.out rfl)
        go_wp2_with fail
        go_ret
        exact ⟨ret_bool (by rw [Hb.out]), rfl⟩
      · obtain rfl := hz true (by decide)
        clear hz
        go_wp2_with fail
        go_roundw
        case rel => exact ⟨k + 1, by omega, by go_num, Htk.out, trivial⟩
        case measure => simp [intOf]; omega
      · obtain rfl := hz true (by decide)
        clear hz
        go_wp2_with fail
        go_roundw
        case rel => exact ⟨k + 1, by omega, by go_num, Htk.out, trivial⟩
        case measure => simp [intOf]; omega
      · obtain rfl := hz false (by decide)
        clear hz
        have Hb := Lib.hid (Hbad.out rfl)
        go_wp2_with fail
        go_ret
        exact ⟨ret_bool (by rw [Hb.out]), rfl⟩
      · obtain rfl := hz true (by simp; omega)
        clear hz
        have f0 : (n : Int) < 97 := by first | omega | (rw [bne_iff_ne]; omega)
        have f1 : ¬ (n : Int) < 48 := by first | omega | (rw [bne_iff_ne]; omega)
        have f2 : ¬ 57 < (n : Int) := by first | omega | (rw [bne_iff_ne]; omega)
        go_wp2_with fail
        go_roundw
        case rel => exact ⟨k + 1, by omega, by go_num, Htk.out, trivial⟩
        case measure => simp [intOf]; omega
      · obtain rfl := hz false (by simp; omega)
        clear hz
        have f0 : (n : Int) < 97 := by first | omega | (rw [bne_iff_ne]; omega)
        have f1 : ¬ (n : Int) < 48 := by first | omega | (rw [bne_iff_ne]; omega)
        have f2 : 57 < (n : Int) := by first | omega | (rw [bne_iff_ne]; omega)
        have f3 : ((n : Int) != 46) = true := by first | omega | (rw [bne_iff_ne]; omega)
        have f4 : ((n : Int) != 45) = true := by first | omega | (rw [bne_iff_ne]; omega)
        have Hb := Lib.hid (Hbad.out rfl)
        go_wp2_with fail
        go_ret
        exact ⟨ret_bool (by rw [Hb.out]), rfl⟩
      · obtain rfl := hz true (by simp; omega)
        clear hz
        have f0 : ¬ (n : Int) < 97 := by first | omega | (rw [bne_iff_ne]; omega)
        have f1 : ¬ 122 < (n : Int) := by first | omega | (rw [bne_iff_ne]; omega)
        go_wp2_with fail
        go_roundw
        case rel => exact ⟨k + 1, by omega, by go_num, Htk.out, trivial⟩
        case measure => simp [intOf]; omega
      · obtain rfl := hz false (by simp; omega)
        clear hz
        have f0 : ¬ (n : Int) < 97 := by first | omega | (rw [bne_iff_ne]; omega)
        have f1 : 122 < (n : Int) := by first | omega | (rw [bne_iff_ne]; omega)
        have f2 : ¬ (n : Int) < 48 := by first | omega | (rw [bne_iff_ne]; omega)
        have f3 : 57 < (n : Int) := by first | omega | (rw [bne_iff_ne]; omega)
        have f4 : ((n : Int) != 46) = true := by first | omega | (rw [bne_iff_ne]; omega)
        have f5 : ((n : Int) != 45) = true := by first | omega | (rw [bne_iff_ne]; omega)
        have Hb := Lib.hid (Hbad.out rfl)
        go_wp2_with fail
        go_ret
        exact ⟨ret_bool (by rw [Hb.out]), rfl⟩
    · obtain rfl : k = l.length := by omega
      have hal : l.all okc = true := by have := HALL.out; rwa [List.take_length] at this
      have HZ : Hid (baseOk l = (decide (1 ≤ l.length) && decide (l.length ≤ 20))) := Lib.hid (by unfold baseOk; rw [hal]; simp)
      clear hal
      by_cases he : l = []
      · have h1 : (str l).toList.isEmpty = true := by rw [str_toList, he]; rfl
        have HE := Lib.hid he
        clear he
        go_wp2_with fail
        go_ret
        exact ⟨ret_bool (by rw [HZ.out, HE.out]; rfl), rfl⟩
      · have h1 : (str l).toList.isEmpty = false := by rw [str_toList]; cases l with
          | nil => exact absurd rfl he
          | cons a b => rfl
        have h2 : 1 ≤ l.length := by cases l with
          | nil => exact absurd rfl he
          | cons a b => simp
        clear he
        go_wp2_with fail
        go_ret
        exact ⟨ret_bool (by rw [HZ.out, decide_eq_true h2]; simp; try omega), rfl⟩
set_option maxRecDepth 100000 in
set_option maxHeartbeats 2000000 in
theorem there_at {w : World} {p m : Nat} {d : Dk} (h : DiskAt w p m d) (k : Nm) (hk : k.length ≤ 9223372036854775807) :
    Calls Tryd.prog 15 #[.pointer (some ⟨p, 0, none⟩), .string (str k)] w fun e w' => ∃ A cap, e = .returned (.tuple #[.slice A (d.read k).1.length cap, .bool (d.has k)]) ∧ Bs w' w'.heap.size A (d.read k).1 ∧ (A = none → (d.read k).1 = []) ∧ (d.read k).1.length ≤ cap ∧ Below w.heap.size w w' := by
  have HR := read_at h k hk
  unfold ReadP at HR
  have h2 : (((d.read k).2 : Int) == 0) = d.has k := by
    unfold Dk.read
    cases d.has k <;> rfl
  generalize d.has k = b at *
  generalize d.read k = r at *
  obtain ⟨l, z⟩ := r
  simp only at HR h2 ⊢
  have HR := Lib.hid HR
  obtain ⟨n, hn⟩ : ∃ n, n = l.length := ⟨_, rfl⟩
  rw [← hn] at HR ⊢
  clear hn h
  go_enter Tryd.func15, Tryd.ntmps15
  go_wp2_with fail
  refine HR.out.mono ?_
  rintro e w1 ⟨A, cap, rfl, hb, h0, hc, hbw⟩
  have HB := Lib.hid hb; have H0 := Lib.hid h0; have HC := Lib.hid hc; have HW := Lib.hid hbw
  clear hb h0 hc hbw
  go_wp2_with fail
  go_ret2
  exact ⟨A, cap, rfl, HB.out, H0.out, HC.out, HW.out⟩
/-- files are removed as far as they are there. -/
def rmv : Dk → List Nm → Dk × Nat
  | d, [] => (d, 0)
  | d, k :: ks => if d.has k = false then rmv d ks else if (d.remove k).2 = 0 then rmv (d.remove k).1 ks else d.remove k
theorem rmv_cons (d : Dk) (k : Nm) (ks : List Nm) : rmv d (k :: ks) = if d.has k = false then rmv d ks else if (d.remove k).2 = 0 then rmv (d.remove k).1 ks else d.remove k := rfl
theorem DiskAt.nostr {w : World} {p m : Nat} {d : Dk} (h : DiskAt w p m d) {b i : Nat} {s : ByteArray} (hc : w.cell? ⟨b, i, none⟩ = some (.string s)) : b ≠ p ∧ b ≠ m := by
  constructor
  · rintro rfl
    rw [cell_blk h.own] at hc
    match i, hc with
    | 0, hc => cases hc
    | 1, hc => cases hc
    | 2, hc => cases hc
    | 3, hc => cases hc
    | i + 4, hc => simp at hc
  · exact h.raw.no_map hc
/-- a row of names. -/
def Nrow (w : World) (B : Nat) (A : Option Addr) (ks : List Nm) : Prop := ∀ i, i < ks.length → ∃ b off, A = some ⟨b, off, none⟩ ∧ b < B ∧ w.cell? ⟨b, off + i, none⟩ = some (.string (str (ks.getD i [])))
theorem Nrow.dw {w w' : World} {p m B : Nat} {d : Dk} {A : Option Addr} {ks : List Nm} (h : Nrow w B A ks) (hd : DiskAt w p m d) (hB : B ≤ w.heap.size) (hw : Dw w w' p m) : Nrow w' B A ks := fun i hi => by
  obtain ⟨b, off, e, hb, hc⟩ := h i hi
  obtain ⟨h1, h2⟩ := hd.nostr hc
  exact ⟨b, off, e, hb, (hw.cell (by omega) h1 h2).trans hc⟩
theorem Nrow.below {w w' : World} {B : Nat} {A : Option Addr} {ks : List Nm} (h : Nrow w B A ks) (hb : Below B w w') : Nrow w' B A ks := fun i hi => by
  obtain ⟨b, off, e, hB, hc⟩ := h i hi
  exact ⟨b, off, e, hB, (hb.cell (p := ⟨b, _, none⟩) hB).trans hc⟩
set_option maxRecDepth 100000 in
set_option maxHeartbeats 4000000 in
theorem rmv_at {w : World} {p m : Nat} {d : Dk} (h : DiskAt w p m d) (hw : d.writes < 900000000000) (ks : List Nm) (n : Nat) (hn : n = ks.length) (hn2 : n ≤ 1000) (hks : ∀ k ∈ ks, k.length ≤ 1000000) (A : Option Addr) (c : Nat) (hA : Nrow w w.heap.size A ks) :
    Calls Tryd.prog 20 #[.pointer (some ⟨p, 0, none⟩), .slice A n c] w (DiskP w p m (rmv d ks)) := by
  have H := Lib.hid h; have HA := Lib.hid hA; have HN := Lib.hid hn; have HKS := Lib.hid hks
  clear h hA hn hks
  go_enter Tryd.func20, Tryd.ntmps20
  go_wp2_with fail
  go_loopw [6, 7, 8, 9, 12] (fun _ _ _ _ iv wr => ∃ (i : Nat) (dr : Dk), i ≤ n ∧ iv = .int .i64 i ∧ DiskAt wr p m dr ∧ Dw w wr p m ∧ rmv d ks = rmv dr (ks.drop i) ∧ dr.writes ≤ d.writes + i) (fun _ _ _ _ iv _ => n - (intOf iv).toNat)
  case atStart => exact ⟨0, d, by omega, rfl, H.out, .refl _ _ _, rfl, Nat.le_refl _⟩
  case round =>
    obtain ⟨i, dr, hi, rfl, hdr, hdw, hrm, hwr⟩ := hrel
    have HD := Lib.hid hdr; have HW := Lib.hid hdw; have HR := Lib.hid hrm
    clear hdr hdw hrm
    by_cases hlt : i < n
    · obtain ⟨b, off, rfl, hb, hc⟩ := (HA.out.dw H.out (Nat.le_refl _) HW.out) i (by have := HN.out; omega)
      have HKL : Hid ((ks.getD i []).length ≤ 1000000) := Lib.hid (by
        rw [List.getD_eq_getElem?_getD, List.getElem?_eq_getElem (by have := HN.out; omega)]
        exact HKS.out _ (List.getElem_mem _))
      have HST : Hid (ks.drop i = ks.getD i [] :: ks.drop (i + 1)) := Lib.hid (by
        have hil : i < ks.length := by have := HN.out; omega
        rw [List.drop_eq_getElem_cons hil, List.getD_eq_getElem?_getD, List.getElem?_eq_getElem hil]; rfl)
      generalize ks.getD i [] = k at *
      have HTH := Lib.hid (there_at HD.out k (by have := HKL.out; omega))
      have HRE := Lib.hid (fun (W : World) (hW : DiskAt W p m dr) => remove_at hW (by omega) k (by have := HKL.out; omega))
      go_wp2_with fail
      refine HTH.out.mono ?_
      rintro e w2 ⟨A2, c2, rfl, hb2, h02, hc2, hbw⟩
      have HD2 := Lib.hid (HD.out.below hbw); have HW2 := Lib.hid (HW.out.trans (.of_below hbw))
      clear hb2 h02 hc2 hbw HTH
      cases hh : dr.has k with
      | false =>
        have HR2 : Hid (rmv d ks = rmv dr (ks.drop (i + 1))) := Lib.hid (by rw [HR.out, HST.out, rmv_cons, if_pos hh])
        clear hh
        go_wp2_with fail
        go_roundw
        case rel => exact ⟨i + 1, dr, by omega, by go_num, HD2.out, HW2.out, HR2.out, by omega⟩
        case measure => simp [intOf]; omega
      | true =>
        have HRE2 := Lib.hid (HRE.out w2 HD2.out)
        have hww := remove_writes dr k
        have HR2 : Hid ((dr.remove k).2 = 0 → rmv d ks = rmv (dr.remove k).1 (ks.drop (i + 1))) := Lib.hid fun h0 => by rw [HR.out, HST.out]; show (if dr.has k = false then _ else _) = _; rw [if_neg (by rw [hh]; decide), if_pos h0]
        have HR3 : Hid (¬ (dr.remove k).2 = 0 → rmv d ks = dr.remove k) := Lib.hid fun h0 => by rw [HR.out, HST.out]; show (if dr.has k = false then _ else _) = _; rw [if_neg (by rw [hh]; decide), if_neg h0]
        clear hh HRE
        unfold DiskP at HRE2
        generalize dr.remove k = r at *
        obtain ⟨d2, z⟩ := r
        simp only at HRE2 HR2 HR3 hww
        go_wp2_with fail
        refine HRE2.out.mono ?_
        rintro e w3 ⟨rfl, h3, h4⟩
        have HD3 := Lib.hid h3; have HW3 := Lib.hid (HW2.out.trans h4)
        clear h3 h4 HRE2
        by_cases h0 : z = 0
        · have HRX := Lib.hid (HR2.out h0)
          have g0 : ((z : Int) != 0) = false := by rw [h0]; rfl
          go_wp2_with fail
          go_roundw
          case rel => exact ⟨i + 1, d2, by omega, by go_num, HD3.out, HW3.out, HRX.out, by omega⟩
          case measure => simp [intOf]; omega
        · have HRX := Lib.hid (HR3.out h0)
          have g0 : ((z : Int) != 0) = true := by rw [bne_iff_ne]; omega
          go_wp2_with fail
          go_ret
          exact ⟨by rw [HRX.out]; rfl, by rw [HRX.out]; exact HD3.out, HW3.out⟩
    · obtain rfl : i = n := by omega
      have HRX : Hid (rmv d ks = (dr, 0)) := Lib.hid (by rw [HR.out, List.drop_of_length_le (by rw [HN.out]; exact Nat.le_refl _)]; rfl)
      go_wp2_with fail
      go_ret
      exact ⟨by rw [HRX.out]; rfl, by rw [HRX.out]; exact HD.out, HW.out⟩
end Go.Proofs.YtdmodhcbcpmadaaDoor
