/- several texts in one: names of a store's files: strconv.Itoa of small numbers, snapshot, draft, logOf., store.named, there, remove (named: turned out of XNa by hand)., store.Open where there is no snapshot., stores that nobody made: each of their calls (printed by gen_none22.py)., store.Commit; two lists of records (assizelaw22.lists: turned out of XNu by words)., the chapter's example; StoreNone. -/
import Derived.Test.YtegekaocbalndaaGreatDoorMg5
import Derived.Test.YtegekaocbalndaaGreatDoorMg15
import Derived.Test.YtegekaocbalndaaGreatDoorNw
import Derived.Test.YtegekaocbalndaaGreatDoorKg
section
set_option linter.unusedSimpArgs false
set_option linter.unusedVariables false
namespace Go.Proofs.YtegekaocbalndaaGreatDoor
open Go.RowKit

def bSnap : List UInt8 := [46, 115, 110, 97, 112]
def bTmp : List UInt8 := [46, 116, 109, 112]
def bLog : List UInt8 := [46, 108, 111, 103, 46]
def decS (g : Nat) : List UInt8 := if g < 10 then [UInt8.ofNat (48 + g)] else [UInt8.ofNat (48 + g / 10), UInt8.ofNat (48 + g % 10)]
def snapN (b : Nm) : Nm := b ++ bSnap
def tmpN (b : Nm) : Nm := b ++ bTmp
def logN (b : Nm) (g : Nat) : Nm := b ++ bLog ++ decS g
set_option maxRecDepth 100000 in
set_option maxHeartbeats 2000000 in
theorem dec_all (f : Nat → ByteArray) (P : Nat → Prop) (g : Nat) (hg : g < 100) (h : P g) (H : ∀ g, g < 100 → P g → f g = str (decS g)) : f g = str (decS g) := H g hg h
theorem str_ln (l : List UInt8) : (str l).size = l.length := by simp [str, ByteArray.size]
set_option maxRecDepth 100000 in
set_option maxHeartbeats 2000000 in
theorem small_at (g : Nat) (hg : g < 100) (w : World) : Calls Tryz.prog 112 #[.int .i64 g] w fun e w' => e = .returned (.string (str (decS g))) ∧ w' = w := by
  have key : ∀ (v : Value) (s : ByteArray), v = .string s → s = str (decS g) → Ending.returned v = .returned (.string (str (decS g))) := by
    rintro v s rfl rfl
    rfl
  by_cases h : g < 10
  · go_enter Tryz.func112, Tryz.ntmps112
    go_wp2_with fail
    go_ret
    refine ⟨key _ _ rfl ?_, by first | rfl | trivial⟩
    refine dec_all (fun x => ByteArray.extract _ x (x + 1)) (fun g => g < 10) g hg h ?_
    decide +kernel
  · go_enter Tryz.func112, Tryz.ntmps112
    go_wp2_with fail
    go_ret
    refine ⟨key _ _ rfl ?_, by first | rfl | trivial⟩
    refine dec_all (fun x => ByteArray.extract _ (x * 2) (x * 2 + 2)) (fun g => ¬ g < 10) g hg h ?_
    decide +kernel
set_option maxRecDepth 100000 in
set_option maxHeartbeats 2000000 in
theorem fmt_at (g : Nat) (hg : g < 100) (w : World) : Calls Tryz.prog 105 #[.int .i64 g, .int .i64 10] w fun e w' => e = .returned (.string (str (decS g))) ∧ w' = w := by
  have HS := Lib.hid (small_at g hg w)
  go_enter Tryz.func105, Tryz.ntmps105
  go_wp2_with fail
  refine HS.out.mono ?_
  rintro e w1 ⟨rfl, rfl⟩
  go_wp2_with fail
  go_ret
  exact ⟨rfl, rfl⟩
set_option maxRecDepth 100000 in
set_option maxHeartbeats 2000000 in
theorem itoa1_at (g : Nat) (hg : g < 100) (w : World) : Calls Tryz.prog 92 #[.int .i64 g] w fun e w' => e = .returned (.string (str (decS g))) ∧ w' = w := by
  have HS := Lib.hid (fmt_at g hg w)
  go_enter Tryz.func92, Tryz.ntmps92
  go_wp2_with fail
  refine HS.out.mono ?_
  rintro e w1 ⟨rfl, rfl⟩
  go_wp2_with fail
  go_ret
  exact ⟨rfl, rfl⟩
set_option maxRecDepth 100000 in
set_option maxHeartbeats 2000000 in
theorem itoa_at (g : Nat) (hg : g < 100) (w : World) : Calls Tryz.prog 81 #[.int .i64 g] w fun e w' => e = .returned (.string (str (decS g))) ∧ w' = w := by
  have HS := Lib.hid (itoa1_at g hg w)
  go_enter Tryz.func81, Tryz.ntmps81
  go_wp2_with fail
  refine HS.out.mono ?_
  rintro e w1 ⟨rfl, rfl⟩
  go_wp2_with fail
  go_ret
  exact ⟨rfl, rfl⟩
set_option maxRecDepth 100000 in
set_option maxHeartbeats 2000000 in
theorem dec_at (g : Nat) (hg : g < 100) (w : World) : Calls Tryz.prog 58 #[.int .i64 g] w fun e w' => e = .returned (.string (str (decS g))) ∧ w' = w := by
  have HS := Lib.hid (itoa_at g hg w)
  go_enter Tryz.func58, Tryz.ntmps58
  go_wp2_with fail
  refine HS.out.mono ?_
  rintro e w1 ⟨rfl, rfl⟩
  go_wp2_with fail
  go_ret
  exact ⟨rfl, rfl⟩
theorem str_app (a b : List UInt8) : str a ++ str b = str (a ++ b) := by
  unfold str
  apply ByteArray.ext
  simp [ByteArray.append]
set_option maxRecDepth 100000 in
set_option maxHeartbeats 2000000 in
theorem snapshot_at (q : Nat) (b : Nm) (hb : b.length ≤ 1000) (w : World) (h : w.cell? ⟨q, 1, none⟩ = some (.string (str b))) : Calls Tryz.prog 26 #[.pointer (some ⟨q, 0, none⟩)] w fun e w' => e = .returned (.string (str (snapN b))) ∧ w' = w := by
  have hs : (str b).size ≤ 1000 := by rw [str_ln]; exact hb
  go_enter Tryz.func26, Tryz.ntmps26
  go_wp2_with fail
  go_ret
  exact ⟨congrArg (fun s => Ending.returned (.string s)) (str_app b bSnap), rfl⟩
set_option maxRecDepth 100000 in
set_option maxHeartbeats 2000000 in
theorem draft_at (q : Nat) (b : Nm) (hb : b.length ≤ 1000) (w : World) (h : w.cell? ⟨q, 1, none⟩ = some (.string (str b))) : Calls Tryz.prog 28 #[.pointer (some ⟨q, 0, none⟩)] w fun e w' => e = .returned (.string (str (tmpN b))) ∧ w' = w := by
  have hs : (str b).size ≤ 1000 := by rw [str_ln]; exact hb
  go_enter Tryz.func28, Tryz.ntmps28
  go_wp2_with fail
  go_ret
  exact ⟨congrArg (fun s => Ending.returned (.string s)) (str_app b bTmp), rfl⟩
set_option maxRecDepth 100000 in
set_option maxHeartbeats 2000000 in
theorem logof_at (q : Nat) (b : Nm) (hb : b.length ≤ 1000) (g : Nat) (hg : g < 100) (w : World) (h : ∀ W, Below w.heap.size w W → W.cell? ⟨q, 1, none⟩ = some (.string (str b))) : Calls Tryz.prog 29 #[.pointer (some ⟨q, 0, none⟩), .int .i64 g] w fun e w' => e = .returned (.string (str (logN b g))) ∧ Below w.heap.size w w' := by
  have HC := Lib.hid h
  have hs : (str b).size ≤ 1000 := by rw [str_ln]; exact hb
  have hs2 : (str (decS g)).size ≤ 2 := by rw [str_ln]; unfold decS; split <;> simp
  have hs3 : ¬ 9223372036854775807 < (str b).size + 5 := by omega
  have hs4 : ¬ 9223372036854775807 < (str b).size + 5 + (str (decS g)).size := by omega
  have HD : Hid (∀ W, Calls Tryz.prog 58 #[.int .i64 g] W fun e w' => e = .returned (.string (str (decS g))) ∧ Below W.heap.size W w') := Lib.hid fun W => (dec_at g hg W).mono fun e w' h => ⟨h.1, h.2 ▸ Below.refl _ _⟩
  clear h
  go_enter Tryz.func29, Tryz.ntmps29
  go_upto_region 1 with fail
  apply wp_region_relS 9 [(Sum.inl _ : TT), (Sum.inl _ : TT), (Sum.inl _ : TT), (Sum.inl _ : TT), (Sum.inl _ : TT), (Sum.inl _ : TT), (Sum.inl _ : TT), (Sum.inl _ : TT), (Sum.inl _ : TT)] (by kernel_rfl) (by kernel_rfl) rfl
  simp only [List.take_succ_cons, List.take_zero, List.drop_succ_cons, List.drop_zero]
  iterate 6 (apply rel_isS; (intro W hW hf; have hx := HC.out W hW; go_simp; first | exact ⟨StayS.refl _ _, rfl⟩ | rfl); simp only [Act.put, List.setIfInBounds_toArray, List.set_cons_succ, List.set_cons_zero])
  apply rel_isS
  · intro W hW hf
    exact rel_callS hW rfl (by go_simp <;> first | rfl | exact ⟨rfl, rfl⟩ | exact ⟨rfl, rfl, rfl⟩) ((HD.out W).mono fun e W' h => ⟨_, h.1, h.2, rfl⟩)
  simp only [Act.put, List.setIfInBounds_toArray, List.set_cons_succ, List.set_cons_zero]
  iterate 2 (apply rel_isS; (intro W hW hf; go_simp; first | exact ⟨StayS.refl _ _, rfl⟩ | rfl); simp only [Act.put, List.setIfInBounds_toArray, List.set_cons_succ, List.set_cons_zero])
  refine rel_endS ?_
  intro W hW hf
  try simp only [Act.put, List.setIfInBounds_toArray, List.set_cons_succ, List.set_cons_zero]
  have HW := Lib.hid hW
  clear hW hf
  go_wp2_with fail
  go_ret
  exact ⟨congrArg (fun s => Ending.returned (.string s)) ((congrArg (fun s => s ++ str (decS g)) (str_app b bLog)).trans (str_app (b ++ bLog) (decS g))), HW.out⟩
end Go.Proofs.YtegekaocbalndaaGreatDoor
end

section
set_option linter.unusedSimpArgs false
set_option linter.unusedVariables false
namespace Go.Proofs.YtegekaocbalndaaGreatDoor
open Go.RowKit

def baseOk (l : Nm) : Bool := decide (1 ≤ l.length) && decide (l.length ≤ 20) && l.all okc
set_option maxRecDepth 100000 in
set_option maxHeartbeats 4000000 in
theorem storename_any (l : Nm) (hl : l.length ≤ 1000000000) (w : World) : Calls Tryz.prog 24 #[.string (str l)] w fun e w' => e = .returned (.bool (baseOk l)) ∧ w' = w := by
  have hs := str_len l
  have hix := fun k h => run_index_str (P := Tryz.prog) w 9 Tryz.underlying9 l k h
  have HIX := Lib.hid hix
  clear hix
  go_enter Tryz.func24, Tryz.ntmps24
  go_wp2_with fail
  go_loopw [3, 4, 7] (fun _ _ iv wr => ∃ k : Nat, k ≤ l.length ∧ iv = .int .i64 k ∧ (l.take k).all okc = true ∧ w = wr) (fun _ _ iv _ => l.length - (intOf iv).toNat)
  case atStart => exact ⟨0, by omega, rfl, by simp, rfl⟩
  case round =>
    obtain ⟨k, hk, rfl, hall, rfl⟩ := hrel
    have HALL := Lib.hid hall
    clear hall
    by_cases hlt : k < l.length
    · have hix := HIX.out k hlt
      have Htk : Hid ((l.take (k + 1)).all okc = okc (l.getD k 0)) := Lib.hid (by
        rw [List.take_succ_eq_append_getElem hlt, List.all_append, HALL.out]
        simp [List.getD_eq_getElem?_getD, hlt])
      have Hbad : Hid (okc (l.getD k 0) = false → baseOk l = false) := Lib.hid (fun hz => by
        have : l.all okc = false := by
          rw [List.all_eq_false]
          exact ⟨l.getD k 0, by simp [List.getD_eq_getElem?_getD, hlt], by rw [hz]; decide⟩
        unfold baseOk; rw [this]; simp)
      have hz : ∀ z, (decide (97 ≤ (l.getD k 0).toNat ∧ (l.getD k 0).toNat ≤ 122) || decide (48 ≤ (l.getD k 0).toNat ∧ (l.getD k 0).toNat ≤ 57) || decide ((l.getD k 0).toNat = 46) || decide ((l.getD k 0).toNat = 45)) = z → okc (l.getD k 0) = z := fun z h => h
      generalize okc (l.getD k 0) = y at *
      generalize (l.getD k 0).toNat = n at *
      have hcase : n < 45 ∨ n = 45 ∨ n = 46 ∨ n = 47 ∨ (48 ≤ n ∧ n ≤ 57) ∨ (58 ≤ n ∧ n ≤ 96) ∨ (97 ≤ n ∧ n ≤ 122) ∨ 123 ≤ n := by omega
      rcases hcase with h | rfl | rfl | rfl | ⟨h, h'⟩ | ⟨h, h'⟩ | ⟨h, h'⟩ | h
      · obtain rfl := hz false (by simp; omega)
        clear hz
        have f0 : (n : Int) < 97 := by first | omega | (rw [bne_iff_ne]; omega)
        have f1 : (n : Int) < 48 := by first | omega | (rw [bne_iff_ne]; omega)
        have f2 : ((n : Int) != 46) = true := by first | omega | (rw [bne_iff_ne]; omega)
        have f3 : ((n : Int) != 45) = true := by first | omega | (rw [bne_iff_ne]; omega)
        have Hb := Lib.hid (Hbad.out rfl)
        go_wp2_with fail
        go_ret
        exact ⟨ret_bool (by rw [Hb.out]), rfl⟩
      · obtain rfl := hz true (by decide)
        clear hz
        go_wp2_with fail
        go_roundw
        case rel => exact ⟨k + 1, by omega, by go_num, Htk.out, trivial⟩
        case measure => simp [intOf]; omega
      · obtain rfl := hz true (by decide)
        clear hz
        go_wp2_with fail
        go_roundw
        case rel => exact ⟨k + 1, by omega, by go_num, Htk.out, trivial⟩
        case measure => simp [intOf]; omega
      · obtain rfl := hz false (by decide)
        clear hz
        have Hb := Lib.hid (Hbad.out rfl)
        go_wp2_with fail
        go_ret
        exact ⟨ret_bool (by rw [Hb.out]), rfl⟩
      · obtain rfl := hz true (by simp; omega)
        clear hz
        have f0 : (n : Int) < 97 := by first | omega | (rw [bne_iff_ne]; omega)
        have f1 : ¬ (n : Int) < 48 := by first | omega | (rw [bne_iff_ne]; omega)
        have f2 : ¬ 57 < (n : Int) := by first | omega | (rw [bne_iff_ne]; omega)
        go_wp2_with fail
        go_roundw
        case rel => exact ⟨k + 1, by omega, by go_num, Htk.out, trivial⟩
        case measure => simp [intOf]; omega
      · obtain rfl := hz false (by simp; omega)
        clear hz
        have f0 : (n : Int) < 97 := by first | omega | (rw [bne_iff_ne]; omega)
        have f1 : ¬ (n : Int) < 48 := by first | omega | (rw [bne_iff_ne]; omega)
        have f2 : 57 < (n : Int) := by first | omega | (rw [bne_iff_ne]; omega)
        have f3 : ((n : Int) != 46) = true := by first | omega | (rw [bne_iff_ne]; omega)
        have f4 : ((n : Int) != 45) = true := by first | omega | (rw [bne_iff_ne]; omega)
        have Hb := Lib.hid (Hbad.out rfl)
        go_wp2_with fail
        go_ret
        exact ⟨ret_bool (by rw [Hb.out]), rfl⟩
      · obtain rfl := hz true (by simp; omega)
        clear hz
        have f0 : ¬ (n : Int) < 97 := by first | omega | (rw [bne_iff_ne]; omega)
        have f1 : ¬ 122 < (n : Int) := by first | omega | (rw [bne_iff_ne]; omega)
        go_wp2_with fail
        go_roundw
        case rel => exact ⟨k + 1, by omega, by go_num, Htk.out, trivial⟩
        case measure => simp [intOf]; omega
      · obtain rfl := hz false (by simp; omega)
        clear hz
        have f0 : ¬ (n : Int) < 97 := by first | omega | (rw [bne_iff_ne]; omega)
        have f1 : 122 < (n : Int) := by first | omega | (rw [bne_iff_ne]; omega)
        have f2 : ¬ (n : Int) < 48 := by first | omega | (rw [bne_iff_ne]; omega)
        have f3 : 57 < (n : Int) := by first | omega | (rw [bne_iff_ne]; omega)
        have f4 : ((n : Int) != 46) = true := by first | omega | (rw [bne_iff_ne]; omega)
        have f5 : ((n : Int) != 45) = true := by first | omega | (rw [bne_iff_ne]; omega)
        have Hb := Lib.hid (Hbad.out rfl)
        go_wp2_with fail
        go_ret
        exact ⟨ret_bool (by rw [Hb.out]), rfl⟩
    · obtain rfl : k = l.length := by omega
      have hal : l.all okc = true := by have := HALL.out; rwa [List.take_length] at this
      have HZ : Hid (baseOk l = (decide (1 ≤ l.length) && decide (l.length ≤ 20))) := Lib.hid (by unfold baseOk; rw [hal]; simp)
      clear hal
      by_cases he : l = []
      · have h1 : (str l).toList.isEmpty = true := by rw [str_toList, he]; rfl
        have HE := Lib.hid he
        clear he
        go_wp2_with fail
        go_ret
        exact ⟨ret_bool (by rw [HZ.out, HE.out]; rfl), rfl⟩
      · have h1 : (str l).toList.isEmpty = false := by rw [str_toList]; cases l with
          | nil => exact absurd rfl he
          | cons a b => rfl
        have h2 : 1 ≤ l.length := by cases l with
          | nil => exact absurd rfl he
          | cons a b => simp
        clear he
        go_wp2_with fail
        go_ret
        exact ⟨ret_bool (by rw [HZ.out, decide_eq_true h2]; simp; try omega), rfl⟩
set_option maxRecDepth 100000 in
set_option maxHeartbeats 2000000 in
theorem there_at {w : World} {p m : Nat} {d : Dk} (h : DiskAt w p m d) (k : Nm) (hk : k.length ≤ 9223372036854775807) :
    Calls Tryz.prog 25 #[.pointer (some ⟨p, 0, none⟩), .string (str k)] w fun e w' => ∃ A cap, e = .returned (.tuple #[.slice A (d.read k).1.length cap, .bool (d.has k)]) ∧ Bs w' w'.heap.size A (d.read k).1 ∧ (A = none → (d.read k).1 = []) ∧ (d.read k).1.length ≤ cap ∧ Below w.heap.size w w' := by
  have HR := read_at h k hk
  unfold ReadP at HR
  have h2 : (((d.read k).2 : Int) == 0) = d.has k := by
    unfold Dk.read
    cases d.has k <;> rfl
  generalize d.has k = b at *
  generalize d.read k = r at *
  obtain ⟨l, z⟩ := r
  simp only at HR h2 ⊢
  have HR := Lib.hid HR
  obtain ⟨n, hn⟩ : ∃ n, n = l.length := ⟨_, rfl⟩
  rw [← hn] at HR ⊢
  clear hn h
  go_enter Tryz.func25, Tryz.ntmps25
  go_wp2_with fail
  refine HR.out.mono ?_
  rintro e w1 ⟨A, cap, rfl, hb, h0, hc, hbw⟩
  have HB := Lib.hid hb; have H0 := Lib.hid h0; have HC := Lib.hid hc; have HW := Lib.hid hbw
  clear hb h0 hc hbw
  go_wp2_with fail
  go_ret2
  exact ⟨A, cap, rfl, HB.out, H0.out, HC.out, HW.out⟩
/-- files are removed as far as they are there. -/
def rmv : Dk → List Nm → Dk × Nat
  | d, [] => (d, 0)
  | d, k :: ks => if d.has k = false then rmv d ks else if (d.remove k).2 = 0 then rmv (d.remove k).1 ks else d.remove k
theorem rmv_cons (d : Dk) (k : Nm) (ks : List Nm) : rmv d (k :: ks) = if d.has k = false then rmv d ks else if (d.remove k).2 = 0 then rmv (d.remove k).1 ks else d.remove k := rfl
theorem DiskAt.nostr {w : World} {p m : Nat} {d : Dk} (h : DiskAt w p m d) {b i : Nat} {s : ByteArray} (hc : w.cell? ⟨b, i, none⟩ = some (.string s)) : b ≠ p ∧ b ≠ m := by
  constructor
  · rintro rfl
    rw [cell_blk h.own] at hc
    match i, hc with
    | 0, hc => cases hc
    | 1, hc => cases hc
    | 2, hc => cases hc
    | 3, hc => cases hc
    | i + 4, hc => simp at hc
  · exact h.raw.no_map hc
/-- a row of names. -/
def Nrow (w : World) (B : Nat) (A : Option Addr) (ks : List Nm) : Prop := ∀ i, i < ks.length → ∃ b off, A = some ⟨b, off, none⟩ ∧ b < B ∧ w.cell? ⟨b, off + i, none⟩ = some (.string (str (ks.getD i [])))
theorem Nrow.dw {w w' : World} {p m B : Nat} {d : Dk} {A : Option Addr} {ks : List Nm} (h : Nrow w B A ks) (hd : DiskAt w p m d) (hB : B ≤ w.heap.size) (hw : Dw w w' p m) : Nrow w' B A ks := fun i hi => by
  obtain ⟨b, off, e, hb, hc⟩ := h i hi
  obtain ⟨h1, h2⟩ := hd.nostr hc
  exact ⟨b, off, e, hb, (hw.cell (by omega) h1 h2).trans hc⟩
theorem Nrow.below {w w' : World} {B : Nat} {A : Option Addr} {ks : List Nm} (h : Nrow w B A ks) (hb : Below B w w') : Nrow w' B A ks := fun i hi => by
  obtain ⟨b, off, e, hB, hc⟩ := h i hi
  exact ⟨b, off, e, hB, (hb.cell (p := ⟨b, _, none⟩) hB).trans hc⟩
set_option maxRecDepth 100000 in
set_option maxHeartbeats 4000000 in
theorem rmv_at {w : World} {p m : Nat} {d : Dk} (h : DiskAt w p m d) (hw : d.writes < 900000000000) (ks : List Nm) (n : Nat) (hn : n = ks.length) (hn2 : n ≤ 1000) (hks : ∀ k ∈ ks, k.length ≤ 1000000) (A : Option Addr) (c : Nat) (hA : Nrow w w.heap.size A ks) :
    Calls Tryz.prog 30 #[.pointer (some ⟨p, 0, none⟩), .slice A n c] w (DiskP w p m (rmv d ks)) := by
  have H := Lib.hid h; have HA := Lib.hid hA; have HN := Lib.hid hn; have HKS := Lib.hid hks
  clear h hA hn hks
  go_enter Tryz.func30, Tryz.ntmps30
  go_wp2_with fail
  go_loopw [6, 7, 8, 9, 12] (fun _ _ _ _ iv wr => ∃ (i : Nat) (dr : Dk), i ≤ n ∧ iv = .int .i64 i ∧ DiskAt wr p m dr ∧ Dw w wr p m ∧ rmv d ks = rmv dr (ks.drop i) ∧ dr.writes ≤ d.writes + i) (fun _ _ _ _ iv _ => n - (intOf iv).toNat)
  case atStart => exact ⟨0, d, by omega, rfl, H.out, .refl _ _ _, rfl, Nat.le_refl _⟩
  case round =>
    obtain ⟨i, dr, hi, rfl, hdr, hdw, hrm, hwr⟩ := hrel
    have HD := Lib.hid hdr; have HW := Lib.hid hdw; have HR := Lib.hid hrm
    clear hdr hdw hrm
    by_cases hlt : i < n
    · obtain ⟨b, off, rfl, hb, hc⟩ := (HA.out.dw H.out (Nat.le_refl _) HW.out) i (by have := HN.out; omega)
      have HKL : Hid ((ks.getD i []).length ≤ 1000000) := Lib.hid (by
        rw [List.getD_eq_getElem?_getD, List.getElem?_eq_getElem (by have := HN.out; omega)]
        exact HKS.out _ (List.getElem_mem _))
      have HST : Hid (ks.drop i = ks.getD i [] :: ks.drop (i + 1)) := Lib.hid (by
        have hil : i < ks.length := by have := HN.out; omega
        rw [List.drop_eq_getElem_cons hil, List.getD_eq_getElem?_getD, List.getElem?_eq_getElem hil]; rfl)
      generalize ks.getD i [] = k at *
      have HTH := Lib.hid (there_at HD.out k (by have := HKL.out; omega))
      have HRE := Lib.hid (fun (W : World) (hW : DiskAt W p m dr) => remove_at hW (by omega) k (by have := HKL.out; omega))
      go_wp2_with fail
      refine HTH.out.mono ?_
      rintro e w2 ⟨A2, c2, rfl, hb2, h02, hc2, hbw⟩
      have HD2 := Lib.hid (HD.out.below hbw); have HW2 := Lib.hid (HW.out.trans (.of_below hbw))
      clear hb2 h02 hc2 hbw HTH
      cases hh : dr.has k with
      | false =>
        have HR2 : Hid (rmv d ks = rmv dr (ks.drop (i + 1))) := Lib.hid (by rw [HR.out, HST.out, rmv_cons, if_pos hh])
        clear hh
        go_wp2_with fail
        go_roundw
        case rel => exact ⟨i + 1, dr, by omega, by go_num, HD2.out, HW2.out, HR2.out, by omega⟩
        case measure => simp [intOf]; omega
      | true =>
        have HRE2 := Lib.hid (HRE.out w2 HD2.out)
        have hww := remove_writes dr k
        have HR2 : Hid ((dr.remove k).2 = 0 → rmv d ks = rmv (dr.remove k).1 (ks.drop (i + 1))) := Lib.hid fun h0 => by rw [HR.out, HST.out]; show (if dr.has k = false then _ else _) = _; rw [if_neg (by rw [hh]; decide), if_pos h0]
        have HR3 : Hid (¬ (dr.remove k).2 = 0 → rmv d ks = dr.remove k) := Lib.hid fun h0 => by rw [HR.out, HST.out]; show (if dr.has k = false then _ else _) = _; rw [if_neg (by rw [hh]; decide), if_neg h0]
        clear hh HRE
        unfold DiskP at HRE2
        generalize dr.remove k = r at *
        obtain ⟨d2, z⟩ := r
        simp only at HRE2 HR2 HR3 hww
        go_wp2_with fail
        refine HRE2.out.mono ?_
        rintro e w3 ⟨rfl, h3, h4⟩
        have HD3 := Lib.hid h3; have HW3 := Lib.hid (HW2.out.trans h4)
        clear h3 h4 HRE2
        by_cases h0 : z = 0
        · have HRX := Lib.hid (HR2.out h0)
          have g0 : ((z : Int) != 0) = false := by rw [h0]; rfl
          go_wp2_with fail
          go_roundw
          case rel => exact ⟨i + 1, d2, by omega, by go_num, HD3.out, HW3.out, HRX.out, by omega⟩
          case measure => simp [intOf]; omega
        · have HRX := Lib.hid (HR3.out h0)
          have g0 : ((z : Int) != 0) = true := by rw [bne_iff_ne]; omega
          go_wp2_with fail
          go_ret
          exact ⟨by rw [HRX.out]; rfl, by rw [HRX.out]; exact HD3.out, HW3.out⟩
    · obtain rfl : i = n := by omega
      have HRX : Hid (rmv d ks = (dr, 0)) := Lib.hid (by rw [HR.out, List.drop_of_length_le (by rw [HN.out]; exact Nat.le_refl _)]; rfl)
      go_wp2_with fail
      go_ret
      exact ⟨by rw [HRX.out]; rfl, by rw [HRX.out]; exact HD.out, HW.out⟩
end Go.Proofs.YtegekaocbalndaaGreatDoor
end

section
set_option linter.unusedSimpArgs false
set_option linter.unusedVariables false
namespace Go.Proofs.YtegekaocbalndaaGreatDoor
open Go.RowKit

theorem EStr : El Tryz.prog 48 9 (.string ByteArray.empty) 16 := ⟨Tryz.underlying48, by kernel_rfl, rfl⟩
/-- block s is a store. -/
def StoreAt (w : World) (s p : Nat) (base : Nm) (res g : Int) (lv : Value) (broken : Bool) : Prop := w.heap[s]? = some (.cells #[.pointer (some ⟨p, 0, none⟩), .string (str base), .int .i64 res, .int .i64 g, lv, .bool broken] 59 (0, 0))
structure SOpenR where
  d : Dk
  l : Option Lg
  ls : List (List UInt8)
  e : Nat
/-- opened, where there is no snapshot. -/
def sopen0 (d : Dk) (base : Nm) (res : Int) : SOpenR :=
  if baseOk base = false ∨ res < 100 ∨ 67108864 < res then ⟨d, none, [], 2⟩
  else if (rmv d [tmpN base, logN base 1]).2 ≠ 0 then ⟨(rmv d [tmpN base, logN base 1]).1, none, [], (rmv d [tmpN base, logN base 1]).2⟩
  else if (lopen (rmv d [tmpN base, logN base 1]).1 (logN base 0) (res.tdiv 3)).e ≠ 0 then ⟨(lopen (rmv d [tmpN base, logN base 1]).1 (logN base 0) (res.tdiv 3)).d, none, [], (lopen (rmv d [tmpN base, logN base 1]).1 (logN base 0) (res.tdiv 3)).e⟩
  else ⟨(lopen (rmv d [tmpN base, logN base 1]).1 (logN base 0) (res.tdiv 3)).d, (lopen (rmv d [tmpN base, logN base 1]).1 (logN base 0) (res.tdiv 3)).l, (lopen (rmv d [tmpN base, logN base 1]).1 (logN base 0) (res.tdiv 3)).ls, 0⟩
def StV (w0 w : World) (p : Nat) (base : Nm) (res g : Int) (pv : Value) : Option Lg → Prop
  | none => pv = .pointer none
  | some L => ∃ s q, pv = .pointer (some ⟨s, 0, none⟩) ∧ StoreAt w s p base res g (.pointer (some ⟨q, 0, none⟩)) false ∧ LogAt w q p L ∧ w0.heap.size ≤ s ∧ w0.heap.size ≤ q ∧ s ≠ q
def SOpenP (w : World) (p m : Nat) (base : Nm) (res : Int) (r : SOpenR) (e : Ending) (w' : World) : Prop := DiskAt w' p m r.d ∧ Dw w w' p m ∧ ∃ pv A c, e = .returned (.tuple #[pv, .slice none 0 0, .slice A r.ls.length c, .int .i64 r.e]) ∧ Ls w' w'.heap.size A r.ls ∧ (A = none → r.ls = []) ∧ r.ls.length ≤ c ∧ StV w w' p base res 0 pv r.l
theorem SOpenP.quit {w w' : World} {p m : Nat} {base : Nm} {res : Int} {r : SOpenR} {e : Ending} {d : Dk} {n : Nat} (hr : r = ⟨d, none, [], n⟩) (he : e = .returned (.tuple #[.pointer none, .slice none 0 0, .slice none 0 0, .int .i64 n])) (hd : DiskAt w' p m d) (hw : Dw w w' p m) : SOpenP w p m base res r e w' := by
  subst hr
  exact ⟨hd, hw, .pointer none, none, 0, he, fun i hi => absurd hi (by simp), fun _ => rfl, Nat.le_refl _, rfl⟩
theorem StoreAt.keep {w w' : World} {s p p' m : Nat} {base : Nm} {res g : Int} {lv : Value} {b : Bool} {d : Dk} (h : StoreAt w s p base res g lv b) (hd : DiskAt w p' m d) (hw : Dw w w' p' m) : StoreAt w' s p base res g lv b := by
  refine (hw.block s (lt_blk h) ?_ ?_).trans h
  · rintro rfl
    have h1 := h.symm.trans hd.own
    simp at h1
  · exact hd.raw.no_map (cell_blk h 1)
theorem rmv_writes : ∀ (ks : List Nm) (d : Dk), (rmv d ks).1.writes ≤ d.writes + ks.length
  | [], d => Nat.le_refl _
  | k :: ks, d => by
    have h1 := remove_writes d k
    have h2 := rmv_writes ks d
    have h3 := rmv_writes ks (d.remove k).1
    rw [rmv_cons]
    simp only [List.length_cons]
    split
    · omega
    · split <;> omega
theorem results_tmp4 {fn : Func} {t u v x : Tmp} (h : fn.results = #[.tmp t, .tmp u, .tmp v, .tmp x]) (tmps : Array Value) (P : Program) (w : World) :
    (results fn tmps).run P w = .ok (.tuple #[tmps.getD t undef, tmps.getD u undef, tmps.getD v undef, tmps.getD x undef]) w := by
  simp [results, h]
theorem own_lit {w : World} {B g : Nat} {e : TypeId} {u : Value} (hB : B ≤ g) (h : w.heap[g]? = some (.cells #[u] e (0, 0))) : w.ownsRow B e 1 (.slice (some ⟨g, 0, none⟩) 1 1) 1 [u] :=
  ⟨rfl, .inr ⟨g, 1, #[u], rfl, hB, h, Nat.le_refl _, by simp [maxLen], by simp, by simp⟩⟩
theorem Nrow.of_rd {w : World} {B : Nat} {A : Option Addr} {ks : List Nm} (h : Rd w B A (ks.map fun k => .string (str k))) : Nrow w B A ks := fun i hi => by
  obtain ⟨b, off, e, hb, hc⟩ := h i (.string (str (ks.getD i []))) (by simp [List.getD_eq_getElem?_getD, hi])
  exact ⟨b, off, e, hb, hc⟩
theorem lopen3_some {s : Dk × Nat} {k : Nm} {res : Int} {sc : List (List UInt8) × Nat × Nat} (h : (lopen3 s k res sc).e = 0) : ∃ L, (lopen3 s k res sc).l = some L := by
  unfold lopen3 at *
  by_cases h1 : s.2 ≠ 0
  · rw [if_pos h1] at h; exact absurd h h1
  · rw [if_neg h1] at h ⊢
    by_cases h2 : res < (sc.2.1 : Int)
    · rw [if_pos h2] at h; cases h
    · rw [if_neg h2]; exact ⟨_, rfl⟩
theorem lopen2_some {s : Dk × Nat} {k : Nm} {res : Int} {sc : List (List UInt8) × Nat × Nat} (h : (lopen2 s k res sc).e = 0) : ∃ L, (lopen2 s k res sc).l = some L := by
  unfold lopen2 at *
  by_cases h1 : s.2 ≠ 0
  · rw [if_pos h1] at h; exact absurd h h1
  · rw [if_neg h1] at h ⊢
    by_cases h2 : sc.2.2 = 2
    · rw [if_pos h2] at h; cases h
    · rw [if_neg h2] at h ⊢; exact lopen3_some h
theorem lopen_some {d : Dk} {k : Nm} {res : Int} (h : (lopen d k res).e = 0) : ∃ L, (lopen d k res).l = some L := by
  unfold lopen at *
  by_cases h1 : nameOk k = false ∨ res < 1 ∨ 67108864 < res
  · rw [if_pos h1] at h; cases h
  · rw [if_neg h1] at h ⊢; exact lopen2_some h
theorem StoreAt.noSl {w : World} {s p : Nat} {base : Nm} {res g : Int} {b : Bool} {lv : Value} (h : StoreAt w s p base res g lv b) (hl : lv = .pointer none ∨ ∃ a, lv = .pointer (some a)) : NoBytes w s ∧ NoSl w s := by
  refine ⟨fun i c hc => ?_, fun i a n c hc => ?_⟩ <;> rw [cell_blk h] at hc
  · match i, hc with
    | 0, hc => cases hc
    | 1, hc => cases hc
    | 2, hc => cases hc
    | 3, hc => cases hc
    | 4, hc => rcases hl with rfl | ⟨a, rfl⟩ <;> cases hc
    | 5, hc => cases hc
    | i + 6, hc => simp at hc
  · match i, hc with
    | 0, hc => cases hc
    | 1, hc => cases hc
    | 2, hc => cases hc
    | 3, hc => cases hc
    | 4, hc => rcases hl with rfl | ⟨a, rfl⟩ <;> cases hc
    | 5, hc => cases hc
    | i + 6, hc => simp at hc
set_option maxRecDepth 100000 in
set_option maxHeartbeats 8000000 in
theorem sopen0_at {w : World} {p m : Nat} {d : Dk} (h : DiskAt w p m d) (hw : d.writes < 10000000000) (base : Nm) (hb : base.length ≤ 500) (res : Int) (hres : (-9223372036854775808 : Int) ≤ res ∧ res ≤ 9223372036854775807) (hsn : d.has (snapN base) = false) (hlen : ((rmv d [tmpN base, logN base 1]).1.file (logN base 0)).b.length ≤ 1000000) :
    Calls Tryz.prog 7 #[.pointer (some ⟨p, 0, none⟩), .string (str base), .int .i64 res] w (SOpenP w p m base res (sopen0 d base res)) := by
  have H := Lib.hid h
  have HRD := Lib.hid (read_at h [] (by decide))
  have HNM := Lib.hid (fun W => storename_any base (by omega) W)
  have HSN := Lib.hid hsn; have HLN := Lib.hid hlen
  have h2 : (((d.read []).2 : Int) == 1) = false := by
    unfold Dk.read
    cases d.has [] <;> rfl
  have hk1 : (snapN base).length ≤ 1000 := by unfold snapN; rw [List.length_append]; show base.length + 5 ≤ _; omega
  have hk2 : (tmpN base).length ≤ 1000 := by unfold tmpN; rw [List.length_append]; show base.length + 4 ≤ _; omega
  have hk3 : ∀ g, (logN base g).length ≤ 1000 := fun g => by
    unfold logN decS
    rw [List.length_append, List.length_append]
    have : bLog.length = 5 := rfl
    split <;> simp <;> omega
  have HK1 := Lib.hid hk1; have HK2 := Lib.hid hk2; have HK3 := Lib.hid hk3
  obtain ⟨hr1, hr2⟩ := hres
  clear h hsn hlen hk1 hk2 hk3
  unfold ReadP at HRD
  generalize d.read [] = rr at *
  obtain ⟨rl, rz⟩ := rr
  simp only at HRD h2
  go_enter Tryz.func7, Tryz.ntmps7
  go_wp2_with fail
  refine HRD.out.mono ?_
  rintro e w1 ⟨A1, c1, rfl, hbs, _, _, hbw⟩
  have H1 := Lib.hid (H.out.below hbw); have W1 := Lib.hid (Dw.of_below (p := p) (m := m) hbw)
  have hsz1 := hbw.size
  clear hbs hbw HRD H
  generalize rl.length = rn at *
  go_wp2_with fail
  refine (HNM.out w1).mono ?_
  rintro e w2 ⟨rfl, hw2⟩
  rw [hw2]
  clear hw2
  cases hbo : baseOk base with
  | false =>
    have HE : Hid (sopen0 d base res = ⟨d, none, [], 2⟩) := Lib.hid (by unfold sopen0; rw [if_pos (.inl hbo)])
    clear hbo
    go_wp2_with fail
    (try simp only [Exit.inBlock, Exit.then])
    refine bodyPost_ret (results_tmp4 rfl _ _ _) rfl ?_
    exact .quit HE.out rfl H1.out W1.out
  | true =>
    have HBO := Lib.hid hbo
    clear hbo
    by_cases hlow : res < 100
    · have HE : Hid (sopen0 d base res = ⟨d, none, [], 2⟩) := Lib.hid (by unfold sopen0; rw [if_pos (.inr (.inl hlow))])
      go_wp2_with fail
      (try simp only [Exit.inBlock, Exit.then])
      refine bodyPost_ret (results_tmp4 rfl _ _ _) rfl ?_
      exact .quit HE.out rfl H1.out W1.out
    by_cases hhigh : 67108864 < res
    · have HE : Hid (sopen0 d base res = ⟨d, none, [], 2⟩) := Lib.hid (by unfold sopen0; rw [if_pos (.inr (.inr hhigh))])
      go_wp2_with fail
      (try simp only [Exit.inBlock, Exit.then])
      refine bodyPost_ret (results_tmp4 rfl _ _ _) rfl ?_
      exact .quit HE.out rfl H1.out W1.out
    have HDF : Hid (¬ (baseOk base = false ∨ res < 100 ∨ 67108864 < res)) := Lib.hid (by rintro (h | h | h); rw [HBO.out] at h; cases h; omega; omega)
    obtain ⟨R, rfl⟩ : ∃ R : Nat, res = R := ⟨res.toNat, by omega⟩
    go_wp2_with fail
    obtain ⟨b0_, hb_⟩ := boxes1 w1 (.cells #[.pointer (some ⟨p, 0, none⟩), .string (str base), .int .i64 R, .int .i64 0, .pointer none, .bool false] 59)
    generalize w1.alloc (.cells #[.pointer (some ⟨p, 0, none⟩), .string (str base), .int .i64 R, .int .i64 0, .pointer none, .bool false] 59) = w3 at *
    have T0b : Hid (∀ W, Below w3.heap.size w3 W → W.heap[w1.heap.size]? = some (.cells #[.pointer (some ⟨p, 0, none⟩), .string (str base), .int .i64 R, .int .i64 0, .pointer none, .bool false] 59 (0, 0))) := Lib.hid (fun W hW => (hW.block _ (lt_blk b0_)).trans b0_)
    have T0 : Hid (∀ W, Below w3.heap.size w3 W → W.cell? ⟨w1.heap.size, 0, none⟩ = some (.pointer (some ⟨p, 0, none⟩)) ∧ W.cell? ⟨w1.heap.size, 1, none⟩ = some (.string (str base)) ∧ W.cell? ⟨w1.heap.size, 2, none⟩ = some (.int .i64 R) ∧ W.cell? ⟨w1.heap.size, 3, none⟩ = some (.int .i64 0) ∧ W.cell? ⟨w1.heap.size, 4, none⟩ = some (.pointer none) ∧ W.cell? ⟨w1.heap.size, 5, none⟩ = some (.bool false)) := Lib.hid (fun W hW => by have e := (hW.block _ (lt_blk b0_)).trans b0_; exact ⟨by rw [cell_blk e]; rfl, by rw [cell_blk e]; rfl, by rw [cell_blk e]; rfl, by rw [cell_blk e]; rfl, by rw [cell_blk e]; rfl, by rw [cell_blk e]; rfl⟩)
    have HB3 := Lib.hid hb_
    clear hb_ b0_
    generalize hs : w1.heap.size = s at *
    have H3 := Lib.hid (H1.out.below (hs ▸ HB3.out)); have W3 := Lib.hid (W1.out.trans (.of_below (hs ▸ HB3.out)))
    have hsz3 := HB3.out.size
    have hps := H1.out.lt
    refine (snapshot_at s base (by omega) w3 (T0.out w3 (Below.refl _ _)).2.1).mono ?_
    rintro e w4 ⟨rfl, hw4⟩
    rw [hw4]
    clear hw4
    have HTH := there_at H3.out (snapN base) (by have := HK1.out; omega)
    rw [HSN.out] at HTH
    have HTH := Lib.hid HTH
    go_wp2_with fail
    refine HTH.out.mono ?_
    rintro e w5 ⟨A5, c5, rfl, _, _, _, hbw⟩
    have H5 := Lib.hid (H3.out.below hbw); have W5 := Lib.hid (W3.out.trans (.of_below hbw)); have HB5 := Lib.hid hbw
    clear hbw HTH
    generalize (d.read (snapN base)).1.length = sn at *
    have t5 := T0.out w5 HB5.out
    go_wp2_with fail
    refine (draft_at s base (by omega) w5 t5.2.1).mono ?_
    rintro e w6 ⟨rfl, hw6⟩
    rw [hw6]
    clear hw6
    have y5 := fun o => T0.out (w5.alloc o) (HB5.out.trans ((below_alloc w5 o).mono HB5.out.size))
    go_wp2_with fail
    obtain ⟨hbx, hby⟩ := boxes1 w5 (.cells #[.string (str (tmpN base))] 9)
    have HX6 := Lib.hid hbx
    have H6 := Lib.hid (H5.out.below hby); have W6 := Lib.hid (W5.out.trans (.of_below hby)); have HB6 := Lib.hid (HB5.out.trans (hby.mono HB5.out.size))
    have HS6 := Lib.hid hby.size
    clear y5 t5
    generalize w5.alloc (.cells #[.string (str (tmpN base))] 9) = w6 at *
    generalize hg5 : w5.heap.size = g5 at *
    have hg5s : w3.heap.size ≤ g5 := by rw [← hg5]; exact HB5.out.size
    clear hbx hby hg5
    refine (logof_at s base (by omega) 1 (by decide) w6 (fun W hW => (T0.out W (HB6.out.trans (hW.mono HB6.out.size))).2.1)).mono ?_
    rintro e w7 ⟨rfl, hb7⟩
    have H7 := Lib.hid (H6.out.below hb7); have W7 := Lib.hid (W6.out.trans (.of_below hb7)); have HB7 := Lib.hid (HB6.out.trans (hb7.mono HB6.out.size))
    have HX7 := Lib.hid ((hb7.block _ (lt_blk HX6.out)).trans HX6.out)
    clear hb7
    have HO7 := Lib.hid (own_lit (B := w3.heap.size) hg5s HX7.out)
    go_wp2_with (at_builtin; refine wpList_append_one0 EStr rfl (.tmp 85) (.tmp 93) rfl w3.heap.size (.string (str (logN base 1))) rfl _ 1 [.string (str (tmpN base))] rfl HO7.out rfl (by omega) (by decide) w3 (Nat.le_refl _) HB7.out ?_; intro v8 w8 h2 h3 h4 h5; have O8 := Lib.hid h2; have B8 := Lib.hid h3; clear h2 h3 h4 h5; obtain ⟨A8, c8, rfl, hr8, _, _⟩ := own_rd O8.out; have R8 := Lib.hid hr8; clear hr8)
    have H8 := Lib.hid (H3.out.below B8.out); have W8 := Lib.hid (W3.out.trans (.of_below B8.out))
    have HRM := Lib.hid (rmv_at H8.out (by omega) [tmpN base, logN base 1] 2 rfl (by decide) (fun k hk => by
      simp only [List.mem_cons, List.not_mem_nil, or_false] at hk
      rcases hk with rfl | rfl
      · have := HK2.out; omega
      · have := HK3.out 1; omega) A8 c8 (Nrow.of_rd (by exact R8.out)))
    have hrw := rmv_writes [tmpN base, logN base 1] d
    simp only [List.length_cons, List.length_nil] at hrw
    have HS : Hid (StoreAt w8 s p base R 0 (.pointer none) false) := Lib.hid (T0b.out w8 B8.out)
    unfold DiskP at HRM
    have HDF2 : Hid (sopen0 d base R = if (rmv d [tmpN base, logN base 1]).2 ≠ 0 then ⟨(rmv d [tmpN base, logN base 1]).1, none, [], (rmv d [tmpN base, logN base 1]).2⟩
      else if (lopen (rmv d [tmpN base, logN base 1]).1 (logN base 0) ((R / 3 : Nat) : Int)).e ≠ 0 then ⟨(lopen (rmv d [tmpN base, logN base 1]).1 (logN base 0) ((R / 3 : Nat) : Int)).d, none, [], (lopen (rmv d [tmpN base, logN base 1]).1 (logN base 0) ((R / 3 : Nat) : Int)).e⟩
      else ⟨(lopen (rmv d [tmpN base, logN base 1]).1 (logN base 0) ((R / 3 : Nat) : Int)).d, (lopen (rmv d [tmpN base, logN base 1]).1 (logN base 0) ((R / 3 : Nat) : Int)).l, (lopen (rmv d [tmpN base, logN base 1]).1 (logN base 0) ((R / 3 : Nat) : Int)).ls, 0⟩) := Lib.hid (by
      unfold sopen0
      rw [if_neg HDF.out, show ((R : Int).tdiv 3) = ((R / 3 : Nat) : Int) by rw [Int.tdiv_eq_ediv_of_nonneg (by omega)]; omega])
    generalize rmv d [tmpN base, logN base 1] = rm at *
    obtain ⟨d2, z⟩ := rm
    simp only at HRM HLN HDF2 hrw
    clear T0b
    go_wp2_with fail
    refine HRM.out.mono ?_
    rintro e w9 ⟨rfl, h9, hw9⟩
    have H9 := Lib.hid h9; have W9 := Lib.hid (W8.out.trans hw9); have S9 := Lib.hid (HS.out.keep H8.out hw9)
    clear h9 hw9 HRM HS T0
    by_cases hz : z = 0
    · subst hz
      have t9 := fun i => cell_blk S9.out i
      have t91 := t9 1; have t93 := t9 3
      simp only [List.getElem?_toArray, List.getElem?_cons_succ, List.getElem?_cons_zero] at t91 t93
      clear t9
      go_wp2_with fail
      refine (logof_at s base (by omega) 0 (by decide) w9 (fun W hW => (hW.cell (p := ⟨s, 1, none⟩) (lt_blk S9.out)).trans t91)).mono ?_
      rintro e w10 ⟨rfl, hb10⟩
      have H10 := Lib.hid (H9.out.below hb10); have W10 := Lib.hid (W9.out.trans (.of_below hb10)); have S10 : Hid (StoreAt w10 s p base R 0 (.pointer none) false) := Lib.hid ((hb10.block _ (lt_blk S9.out)).trans S9.out)
      clear hb10 t91 t93
      have HLO := Lib.hid (open_at H10.out (by omega) (logN base 0) (by have := HK3.out 0; omega) ((R / 3 : Nat) : Int) HLN.out)
      have hsome := fun (h : (lopen d2 (logN base 0) ((R / 3 : Nat) : Int)).e = 0) => lopen_some h
      have HSOME := Lib.hid hsome
      clear hsome
      generalize lopen d2 (logN base 0) ((R / 3 : Nat) : Int) = lo at *
      obtain ⟨dl, ll, lls, le⟩ := lo
      simp only at HDF2 HSOME
      go_wp2_with fail
      rw [show ((R : Int) / 3) = ((R / 3 : Nat) : Int) by omega]
      refine HLO.out.mono ?_
      rintro e w11 ⟨hd11, hw11, pv, A, c, rfl, hls, hA0, hc, hlv⟩
      have H11 := Lib.hid hd11; have W11 := Lib.hid (W10.out.trans hw11); have S11 := Lib.hid (S10.out.keep H10.out hw11)
      have HLS := Lib.hid hls; have HA0 := Lib.hid hA0; have HC := Lib.hid hc
      have hsz10 := W10.out.size
      have hs10 := lt_blk S10.out
      clear hd11 hw11 hls hA0 hc HLO
      simp only at H11 HLS HA0 HC hlv ⊢
      by_cases hle : le = 0
      · subst hle
        obtain ⟨L, hL⟩ := HSOME.out rfl
        subst hL
        obtain ⟨q, rfl, hlog, hq⟩ := hlv
        have HLG := Lib.hid hlog
        have hc4 := cell_blk S11.out 4
        simp only [List.getElem?_toArray, List.getElem?_cons_succ, List.getElem?_cons_zero] at hc4
        have fz := fun i => free_blk S11.out i
        have HE : Hid (sopen0 d base R = ⟨dl, some L, lls, 0⟩) := Lib.hid (by rw [HDF2.out, if_neg (fun h => h rfl), if_neg (fun h => h rfl)])
        have hsp : s ≠ p := by omega
        have hsq : s ≠ q := by omega
        have HD12 : Hid (DiskAt (w11.setCell ⟨s, 4, none⟩ (.pointer (some ⟨q, 0, none⟩))) p m dl) := Lib.hid (H11.out.set hc4 rfl hsp _)
        have HS12 : Hid (StoreAt (w11.setCell ⟨s, 4, none⟩ (.pointer (some ⟨q, 0, none⟩))) s p base R 0 (.pointer (some ⟨q, 0, none⟩)) false) := Lib.hid (set_blk S11.out 4 _)
        have HG12 : Hid (LogAt (w11.setCell ⟨s, 4, none⟩ (.pointer (some ⟨q, 0, none⟩))) q p L) := Lib.hid ((Below.heap_setCell _ _ _ _ (by simpa using hsq.symm)).trans HLG.out)
        have HW12 : Hid (Dw w (w11.setCell ⟨s, 4, none⟩ (.pointer (some ⟨q, 0, none⟩))) p m) := Lib.hid (W11.out.new (((Ow.refl w11 s).set 4 (.pointer (some ⟨q, 0, none⟩))).dw m) (by omega))
        have HLS12 : Hid (Ls (w11.setCell ⟨s, 4, none⟩ (.pointer (some ⟨q, 0, none⟩))) (w11.setCell ⟨s, 4, none⟩ (.pointer (some ⟨q, 0, none⟩))).heap.size A lls) := Lib.hid ((((Ow.refl w11 s).set 4 (.pointer (some ⟨q, 0, none⟩))).bw.ls (fun k hk => by
          simp only [List.mem_singleton] at hk
          subst hk
          exact S11.out.noSl (.inl rfl)) (Nat.le_refl _) HLS.out).more (by rw [World.size_setCell]; exact Nat.le_refl _))
        clear hlog
        obtain ⟨nl, hnl⟩ : ∃ nl, nl = lls.length := ⟨_, rfl⟩
        have HNL := Lib.hid hnl
        rw [← hnl]
        clear hnl
        go_wp2_with fail
        (try simp only [Exit.inBlock, Exit.then])
        refine bodyPost_ret (results_tmp4 rfl _ _ _) rfl ?_
        rw [HE.out]
        have hnl := HNL.out
        subst hnl
        exact ⟨HD12.out, HW12.out, .pointer (some ⟨s, 0, none⟩), A, c, rfl, HLS12.out, HA0.out, HC.out, s, q, rfl, HS12.out, HG12.out, by have := W3.out.size; omega, by have := W10.out.size; omega, hsq⟩
      · have g0 : ((le : Int) != 0) = true := by rw [bne_iff_ne]; omega
        have HE : Hid (sopen0 d base R = ⟨dl, none, [], le⟩) := Lib.hid (by rw [HDF2.out, if_neg (fun h => h rfl), if_pos hle])
        generalize lls.length = nl at *
        clear hlv
        rcases show ∃ x, x = pv from ⟨pv, rfl⟩ with ⟨pv', hpv⟩
        go_wp2_with fail
        (try simp only [Exit.inBlock, Exit.then])
        refine bodyPost_ret (results_tmp4 rfl _ _ _) rfl ?_
        exact .quit HE.out rfl H11.out W11.out
    · have HE : Hid (sopen0 d base R = ⟨d2, none, [], z⟩) := Lib.hid (by rw [HDF2.out, if_pos hz])
      have g0 : ((z : Int) != 0) = true := by rw [bne_iff_ne]; omega
      go_wp2_with fail
      (try simp only [Exit.inBlock, Exit.then])
      refine bodyPost_ret (results_tmp4 rfl _ _ _) rfl ?_
      exact .quit HE.out rfl H9.out W9.out
end Go.Proofs.YtegekaocbalndaaGreatDoor
end

section
set_option linter.unusedSimpArgs false
set_option linter.unusedVariables false
namespace Go.Proofs.YtegekaocbalndaaGreatDoor
open Go.RowKit

/-- a store's value that is none. -/
def SNone (w : World) (v : Value) : Prop := v = .pointer none ∨ ∃ g, v = .pointer (some ⟨g, 0, none⟩) ∧ w.cell? ⟨g, 0, none⟩ = some (.pointer none)
theorem SNone.below {w w' : World} {v : Value} (h : SNone w v) (hb : Below w.heap.size w w') : SNone w' v := by
  rcases h with h | ⟨g, h1, h2⟩
  · exact .inl h
  · exact .inr ⟨g, h1, (hb.cell (p := ⟨g, 0, none⟩) (cell_lt h2)).trans h2⟩
/-- a disk's value that is none. -/
def ENone (w : World) (v : Value) : Prop := v = .pointer none ∨ ∃ g, v = .pointer (some ⟨g, 0, none⟩) ∧ w.cell? ⟨g, 1, none⟩ = some (.map none)
theorem enone_at {w : World} {v : Value} (h : ENone w v) : Calls Tryz.prog 32 #[v] w fun e w' => e = .returned (.bool true) ∧ w' = w := by
  rcases h with rfl | ⟨g, rfl, h2⟩
  · exact none_nil w
  · exact none_odd h2
set_option maxRecDepth 100000 in
set_option maxHeartbeats 2000000 in
theorem eread_none {w : World} {v : Value} (h : ENone w v) {s : Value} : Calls Tryz.prog 23 #[v, s] w fun e w' => e = .returned (.tuple #[.slice none 0 0, .int .i64 1]) ∧ w' = w := by
  have HN := Lib.hid (enone_at h)
  clear h
  go_enter Tryz.func23, Tryz.ntmps23
  go_wp2_with fail
  refine HN.out.mono ?_
  rintro e w1 ⟨rfl, rfl⟩
  go_wp2_with fail
  go_ret2
  exact ⟨rfl, rfl⟩
set_option maxRecDepth 100000 in
set_option maxHeartbeats 2000000 in
theorem sopen_none {w : World} {v : Value} (h : ENone w v) {s r : Value} : Calls Tryz.prog 7 #[v, s, r] w fun e w' => e = .returned (.tuple #[.pointer none, .slice none 0 0, .slice none 0 0, .int .i64 1]) ∧ w' = w := by
  have HN := Lib.hid (eread_none h (s := .string (str [])))
  have e0 : (str [] : ByteArray) = ⟨#[]⟩ := rfl
  rw [e0] at HN
  clear h e0
  go_enter Tryz.func7, Tryz.ntmps7
  go_wp2_with fail
  refine HN.out.mono ?_
  rintro e w1 ⟨rfl, rfl⟩
  go_wp2_with fail
  (try simp only [Exit.inBlock, Exit.then])
  refine bodyPost_ret (results_tmp4 rfl _ _ _) rfl ?_
  exact ⟨rfl, rfl⟩
set_option maxRecDepth 100000 in
set_option maxHeartbeats 2000000 in
theorem snone_at {w : World} {v : Value} (h : SNone w v) : Calls Tryz.prog 33 #[v] w fun e w' => e = .returned (.bool true) ∧ w' = w := by
  rcases h with rfl | ⟨g, rfl, h2⟩
  · go_enter Tryz.func33, Tryz.ntmps33
    go_wp2_with fail
    go_ret
    exact ⟨rfl, rfl⟩
  · go_enter Tryz.func33, Tryz.ntmps33
    go_wp2_with fail
    go_ret
    exact ⟨rfl, rfl⟩
set_option maxRecDepth 100000 in
set_option maxHeartbeats 2000000 in
theorem smay_none {w : World} {v : Value} (h : SNone w v) : Calls Tryz.prog 36 #[v] w fun e w' => e = .returned (.int .i64 1) ∧ w' = w := by
  have HN := Lib.hid (snone_at h)
  clear h
  go_enter Tryz.func36, Tryz.ntmps36
  go_wp2_with fail
  refine HN.out.mono ?_
  rintro e w1 ⟨rfl, rfl⟩
  go_wp2_with fail
  go_ret
  exact ⟨rfl, rfl⟩
set_option maxRecDepth 100000 in
set_option maxHeartbeats 2000000 in
theorem scommit_none {w : World} {v : Value} (h : SNone w v) (b : Value) : Calls Tryz.prog 12 #[v, b] w fun e w' => e = .returned (.int .i64 1) ∧ w' = w := by
  have HN := Lib.hid (smay_none h)
  clear h
  go_enter Tryz.func12, Tryz.ntmps12
  go_wp2_with fail
  refine HN.out.mono ?_
  rintro e w1 ⟨rfl, rfl⟩
  go_wp2_with fail
  go_ret
  exact ⟨rfl, rfl⟩
set_option maxRecDepth 100000 in
set_option maxHeartbeats 2000000 in
theorem sfits_none {w : World} {v : Value} (h : SNone w v) (n : Int) : Calls Tryz.prog 9 #[v, .int .i64 n] w fun e w' => e = .returned (.bool false) ∧ w' = w := by
  have HN := Lib.hid (snone_at h)
  clear h
  go_enter Tryz.func9, Tryz.ntmps9
  go_wp2_with fail
  refine HN.out.mono ?_
  rintro e w1 ⟨rfl, rfl⟩
  go_wp2_with fail
  go_ret
  exact ⟨rfl, rfl⟩
set_option maxRecDepth 100000 in
set_option maxHeartbeats 2000000 in
theorem ssmall_none {w : World} {v : Value} (h : SNone w v) (n : Int) : Calls Tryz.prog 10 #[v, .int .i64 n] w fun e w' => e = .returned (.bool false) ∧ w' = w := by
  have HN := Lib.hid (snone_at h)
  clear h
  go_enter Tryz.func10, Tryz.ntmps10
  go_wp2_with fail
  refine HN.out.mono ?_
  rintro e w1 ⟨rfl, rfl⟩
  go_wp2_with fail
  go_ret
  exact ⟨rfl, rfl⟩
set_option maxRecDepth 100000 in
set_option maxHeartbeats 2000000 in
theorem sgen_none {w : World} {v : Value} (h : SNone w v) : Calls Tryz.prog 16 #[v] w fun e w' => e = .returned (.int .i64 0) ∧ w' = w := by
  have HN := Lib.hid (snone_at h)
  clear h
  go_enter Tryz.func16, Tryz.ntmps16
  go_wp2_with fail
  refine HN.out.mono ?_
  rintro e w1 ⟨rfl, rfl⟩
  go_wp2_with fail
  go_ret
  exact ⟨rfl, rfl⟩
set_option maxRecDepth 100000 in
set_option maxHeartbeats 2000000 in
theorem sused_none {w : World} {v : Value} (h : SNone w v) : Calls Tryz.prog 51 #[v] w fun e w' => e = .returned (.int .i64 0) ∧ w' = w := by
  have HN := Lib.hid (snone_at h)
  clear h
  go_enter Tryz.func51, Tryz.ntmps51
  go_wp2_with fail
  refine HN.out.mono ?_
  rintro e w1 ⟨rfl, rfl⟩
  go_wp2_with fail
  go_ret
  exact ⟨rfl, rfl⟩
set_option maxRecDepth 100000 in
set_option maxHeartbeats 2000000 in
theorem sbroken_none {w : World} {v : Value} (h : SNone w v) : Calls Tryz.prog 18 #[v] w fun e w' => e = .returned (.bool false) ∧ w' = w := by
  have HN := Lib.hid (snone_at h)
  clear h
  go_enter Tryz.func18, Tryz.ntmps18
  go_wp2_with fail
  refine HN.out.mono ?_
  rintro e w1 ⟨rfl, rfl⟩
  go_wp2_with fail
  go_ret
  exact ⟨rfl, rfl⟩
set_option maxRecDepth 100000 in
set_option maxHeartbeats 2000000 in
theorem scompact_none {w : World} {v : Value} (h : SNone w v) (b : Value) (hv : v = .pointer none ∨ ∃ a, v = .pointer (some a)) : Calls Tryz.prog 11 #[v, b] w fun e w' => e = .returned (.int .i64 1) ∧ Below w.heap.size w w' := by
  have HN := Lib.hid (smay_none (h.below (below_alloc w (.cells #[v] 29))))
  have HB := Lib.hid (below_alloc w (.cells #[v] 29))
  have hbx := heap_alloc_new w (.cells #[v] 29)
  have c0 : (w.alloc (.cells #[v] 29)).cell? ⟨w.heap.size, 0, none⟩ = some v := by rw [cell_blk hbx]; rfl
  clear h hbx
  rcases hv with rfl | ⟨a, rfl⟩
  all_goals
    go_enter Tryz.func11, Tryz.ntmps11
    go_wp2_with fail
    refine HN.out.mono ?_
    rintro e w1 ⟨rfl, rfl⟩
    go_wp2_with fail
    go_ret
    exact ⟨rfl, HB.out⟩
end Go.Proofs.YtegekaocbalndaaGreatDoor
end

section
set_option linter.unusedSimpArgs false
set_option linter.unusedVariables false
namespace Go.Proofs.YtegekaocbalndaaGreatDoor
open Go.RowKit

theorem StoreAt.ne {w : World} {s p p' m q : Nat} {base : Nm} {res g : Int} {lv : Value} {b : Bool} {d : Dk} {L : Lg} (h : StoreAt w s p base res g lv b) (hd : DiskAt w p' m d) (hl : LogAt w q p L) : s ≠ p' ∧ s ≠ m ∧ s ≠ q := by
  refine ⟨?_, hd.raw.no_map (cell_blk h 1), ?_⟩
  · rintro rfl
    have h1 := h.symm.trans hd.own
    simp at h1
  · rintro rfl
    have h1 := h.symm.trans hl
    simp at h1
/-- a store and its log, on their disk. -/
structure Sto (w : World) (s q p m : Nat) (base : Nm) (res g : Int) (b : Bool) (d : Dk) (L : Lg) : Prop where
  disk : DiskAt w p m d
  log : LogAt w q p L
  st : StoreAt w s p base res g (.pointer (some ⟨q, 0, none⟩)) b
theorem Sto.below {w w' : World} {s q p m : Nat} {base : Nm} {res g : Int} {b : Bool} {d : Dk} {L : Lg} (h : Sto w s q p m base res g b d L) (hb : Below w.heap.size w w') : Sto w' s q p m base res g b d L :=
  ⟨h.disk.below hb, (hb.block _ h.log.lt).trans h.log, (hb.block _ (lt_blk h.st)).trans h.st⟩
set_option maxRecDepth 100000 in
set_option maxHeartbeats 2000000 in
theorem snone_st {w : World} {s p : Nat} {base : Nm} {res g : Int} {lv : Value} {b : Bool} (h : StoreAt w s p base res g lv b) : Calls Tryz.prog 33 #[.pointer (some ⟨s, 0, none⟩)] w fun e w' => e = .returned (.bool false) ∧ w' = w := by
  have c0 := cell_blk h 0
  simp only [List.getElem?_toArray, List.getElem?_cons_succ, List.getElem?_cons_zero] at c0
  go_enter Tryz.func33, Tryz.ntmps33
  go_wp2_with fail
  go_ret
  exact ⟨rfl, rfl⟩
set_option maxRecDepth 100000 in
set_option maxHeartbeats 2000000 in
theorem smay_st {w : World} {s p : Nat} {base : Nm} {res g : Int} {lv : Value} {b : Bool} (h : StoreAt w s p base res g lv b) : Calls Tryz.prog 36 #[.pointer (some ⟨s, 0, none⟩)] w fun e w' => e = .returned (.int .i64 (if b = true then 14 else 0)) ∧ w' = w := by
  have c0 := cell_blk h 5
  simp only [List.getElem?_toArray, List.getElem?_cons_succ, List.getElem?_cons_zero] at c0
  have HN := Lib.hid (snone_st h)
  clear h
  cases b with
  | true =>
    go_enter Tryz.func36, Tryz.ntmps36
    go_wp2_with fail
    refine HN.out.mono ?_
    rintro e w1 ⟨rfl, rfl⟩
    go_wp2_with fail
    go_ret
    exact ⟨rfl, rfl⟩
  | false =>
    go_enter Tryz.func36, Tryz.ntmps36
    go_wp2_with fail
    refine HN.out.mono ?_
    rintro e w1 ⟨rfl, rfl⟩
    go_wp2_with fail
    go_ret
    exact ⟨rfl, rfl⟩
set_option maxRecDepth 100000 in
set_option maxHeartbeats 4000000 in
theorem scommit_at {w : World} {s q p m : Nat} {base : Nm} {res g : Int} {d : Dk} {L : Lg} (h : Sto w s q p m base res g false d L) (hok : L.Ok) (hw : d.writes < 100000000000) (b : List UInt8) (n : Nat) (hn : n = b.length) (C : Option Addr) (capb : Nat) (hC : Bs w w.heap.size C b) (hC0 : C = none → b = []) :
    Calls Tryz.prog 12 #[.pointer (some ⟨s, 0, none⟩), .slice C n capb] w fun e w' => e = .returned (.int .i64 (lcommit L d b).2.2) ∧ Sto w' s q p m base res g (lcommit L d b).1.broken (lcommit L d b).2.1 (lcommit L d b).1 ∧ Bw w w' [p, m, q, s] := by
  have HM := Lib.hid (smay_st h.st)
  have HC := Lib.hid (commit_at h.disk h.log hok hw b n hn C capb hC hC0)
  have HNE := Lib.hid (h.st.ne h.disk h.log)
  have hc4 := cell_blk h.st 4
  simp only [List.getElem?_toArray, List.getElem?_cons_succ, List.getElem?_cons_zero] at hc4
  have HS := Lib.hid h.st
  unfold CommitP at HC
  clear h hok hn hC hC0
  generalize lcommit L d b = r at *
  obtain ⟨L2, d2, z⟩ := r
  simp only at HC ⊢
  go_enter Tryz.func12, Tryz.ntmps12
  go_wp2_with fail
  refine HM.out.mono ?_
  rintro e w1 ⟨rfl, hw1⟩
  rw [hw1]
  clear hw1
  go_wp2_with fail
  refine HC.out.mono ?_
  rintro e w2 ⟨rfl, hd, hl, hb⟩
  have HD2 := Lib.hid hd; have HL2 := Lib.hid hl; have HB2 := Lib.hid hb
  have HS2 : Hid (StoreAt w2 s p base res g (.pointer (some ⟨q, 0, none⟩)) false) := Lib.hid ((hb.block _ (lt_blk HS.out) (by have := HNE.out; simp; omega)).trans HS.out)
  clear hd hl hb hc4 HC
  have hc := fun i => cell_blk HS2.out i
  have hc4 := hc 4; have hc5 := hc 5
  simp only [List.getElem?_toArray, List.getElem?_cons_succ, List.getElem?_cons_zero] at hc4 hc5
  have fz := fun i => free_blk HS2.out i
  clear hc
  go_wp2_with fail
  refine (lbroken_at HL2.out).mono ?_
  rintro e w3 ⟨rfl, hw3⟩
  rw [hw3]
  clear hw3
  have hc5' := hc5
  go_wp2_with fail
  go_ret
  refine ⟨rfl, ⟨HD2.out.set hc5' rfl HNE.out.1 _, (Below.heap_setCell _ _ _ _ (by simpa using HNE.out.2.2.symm)).trans HL2.out, set_blk HS2.out 5 _⟩, (HB2.out.more (by simp)).trans (((Ow.refl w2 s).set 5 (.bool L2.broken)).bw.more (by simp))⟩
set_option maxRecDepth 100000 in
set_option maxHeartbeats 2000000 in
theorem lists22 (la lb : List (List UInt8)) (hn : la.length ≤ 1000000) (hm : lb.length ≤ 1000000) (A B : Option Addr) (ca cb Ba Bb : Nat) (w : World) (ha : Ls w Ba A la) (hBa : Ba ≤ w.heap.size) (hb : Ls w Bb B lb) (hBb : Bb ≤ w.heap.size) :
    Calls Tryz.prog 22 #[.slice A la.length ca, .slice B lb.length cb] w fun e w' => e = .returned (.bool (decide (la = lb))) ∧ Below w.heap.size w w' := by
  have HA := Lib.hid ha; have HB := Lib.hid hb
  clear ha hb
  go_enter Tryz.func22, Tryz.ntmps22
  by_cases hl : la.length = lb.length
  · have d0 : ((la.length : Int) != (lb.length : Int)) = false := by rw [bne_eq_false_iff_eq]; omega
    have Hl := Lib.hid hl
    clear hl
    go_wp2_with fail
    go_loopw [5] (fun i wr => ∃ k : Nat, k ≤ la.length ∧ i = .int .i64 k ∧ (∀ j, j < k → la.getD j [] = lb.getD j []) ∧ Below w.heap.size w wr) (fun i _ => la.length - (intOf i).toNat)
    case atStart => exact ⟨0, by omega, rfl, fun j h => by omega, Below.refl _ _⟩
    case round =>
      obtain ⟨k, hk, rfl, hj, hbw⟩ := hrel
      have Hj := Lib.hid hj; have Hb := Lib.hid hbw
      clear hj hbw
      by_cases hlt : k < la.length
      · obtain ⟨b, off, rfl, hb1, Ai, ci, hc1, hs1, hz1⟩ := HA.out k hlt
        obtain ⟨b', off', rfl, hb2, Aj, cj, hc2, hs2, hz2⟩ := HB.out k (by have := Hl.out; omega)
        have hlt2 : k < lb.length := by have := Hl.out; omega
        have C1 : Hid (∀ W, Below wr.heap.size wr W → W.cell? ⟨b, off + k, none⟩ = some (.slice Ai (la.getD k []).length ci)) := Lib.hid (fun W hW => ((Hb.out.trans (hW.mono Hb.out.size)).cell (p := ⟨b, off + k, none⟩) (Nat.lt_of_lt_of_le hb1 hBa)).trans hc1)
        have C2 : Hid (∀ W, Below wr.heap.size wr W → W.cell? ⟨b', off' + k, none⟩ = some (.slice Aj (lb.getD k []).length cj)) := Lib.hid (fun W hW => ((Hb.out.trans (hW.mono Hb.out.size)).cell (p := ⟨b', off' + k, none⟩) (Nat.lt_of_lt_of_le hb2 hBb)).trans hc2)
        have S1 : Hid (∀ W, Below wr.heap.size wr W → Calls Tryz.prog 17 #[.slice Ai (la.getD k []).length ci, .slice Aj (lb.getD k []).length cj] W fun e W' => ∃ v, e = .returned v ∧ Below W.heap.size W W' ∧ ttHolds (.inl (.bool (decide (la.getD k [] = lb.getD k [])))) v W') := Lib.hid (fun W hW => by
          have hwW := Hb.out.trans (hW.mono Hb.out.size)
          exact (same_bytes _ _ Ai Aj _ _ ci cj W _ _ rfl rfl (hs1.below (hwW.mono hBa)) hz1 (hs2.below (hwW.mono hBb)) hz2).mono fun e W' ⟨h1, h2⟩ => ⟨_, h1, h2 ▸ Below.refl _ _, rfl⟩)
        clear hc1 hc2 hs1 hs2 hz1 hz2
        have g1 : (0 : Int) ≤ k := by omega
        have g2 : (k : Int) < la.length := by omega
        have g3 : (k : Int) < lb.length := by omega
        have Heq : Hid (la.getD k [] = lb.getD k [] ∨ la ≠ lb) := Lib.hid (by by_cases e : la = lb; exact .inl (by rw [e]); exact .inr e)
        have Hjn : Hid (la.getD k [] = lb.getD k [] → ∀ j, j < k + 1 → la.getD j [] = lb.getD j []) := Lib.hid (fun e j hj => by
          by_cases h : j = k
          · subst h; exact e
          · exact Hj.out j (by omega))
        have Hne : Hid (la.getD k [] ≠ lb.getD k [] → la ≠ lb) := Lib.hid (fun e h => e (by rw [h]))
        clear Heq
        generalize la.getD k [] = x at *
        generalize lb.getD k [] = y at *
        go_wp2_with fail
        apply wp_region_relS 10 [(Sum.inl _ : TT), (Sum.inl _ : TT), (Sum.inl _ : TT), (Sum.inl _ : TT), (Sum.inl _ : TT), (Sum.inl _ : TT), (Sum.inl _ : TT), (Sum.inl _ : TT), (Sum.inl _ : TT), (Sum.inl _ : TT)] (by kernel_rfl) (by kernel_rfl) rfl
        simp only [List.take_succ_cons, List.take_zero, List.drop_succ_cons, List.drop_zero]
        iterate 8 (apply rel_isS; (intro W hW hf; have hx1 := C1.out W hW; have hx2 := C2.out W hW; go_simp; first | exact ⟨StayS.refl _ _, rfl⟩ | rfl); simp only [Act.put, List.setIfInBounds_toArray, List.set_cons_succ, List.set_cons_zero])
        apply rel_isS
        · intro W hW hf
          exact rel_callS hW rfl (by go_simp <;> first | rfl | exact ⟨rfl, rfl⟩ | exact ⟨rfl, rfl, rfl⟩) (S1.out W hW)
        simp only [Act.put, List.setIfInBounds_toArray, List.set_cons_succ, List.set_cons_zero]
        iterate 1 (apply rel_isS; (intro W hW hf; go_simp; first | exact ⟨StayS.refl _ _, rfl⟩ | rfl); simp only [Act.put, List.setIfInBounds_toArray, List.set_cons_succ, List.set_cons_zero])
        refine rel_endS ?_
        intro W hW hf
        try simp only [Act.put, List.setIfInBounds_toArray, List.set_cons_succ, List.set_cons_zero]
        refine wpList_nil ?_
        have HW := Lib.hid (Hb.out.trans (hW.mono Hb.out.size))
        clear hW hf
        generalize hd : decide (x = y) = d
        cases d
        · have Hd : Hid (la ≠ lb) := Lib.hid (Hne.out (of_decide_eq_false hd))
          clear hd
          go_wp2_with fail
          go_ret
          exact ⟨ret_bool (by simp [Hd.out]), HW.out⟩
        · have Hjn2 := Lib.hid (Hjn.out (of_decide_eq_true hd))
          clear hd
          go_wp2_with fail
          go_roundw
          case rel => exact ⟨k + 1, by omega, by go_num, Hjn2.out, HW.out⟩
          case measure => simp [intOf]; omega
      · obtain rfl : k = la.length := by omega
        have Hd : Hid (la = lb) := Lib.hid (by
          apply List.ext_getElem Hl.out
          intro i h1 h2
          have := Hj.out i h1
          simpa [List.getD_eq_getElem?_getD, h1, h2] using this)
        go_wp2_with fail
        go_ret
        exact ⟨ret_bool (by simp [Hd.out]), Hb.out⟩
  · have d0 : ((la.length : Int) != (lb.length : Int)) = true := by rw [bne_iff_ne]; omega
    have Hd : Hid (la ≠ lb) := Lib.hid (fun e => hl (by rw [e]))
    go_wp2_with fail
    go_ret
    exact ⟨ret_bool (by simp [Hd.out]), Below.refl _ _⟩
end Go.Proofs.YtegekaocbalndaaGreatDoor
end

section
set_option linter.unusedSimpArgs false
set_option linter.unusedVariables false
namespace Go.Proofs.YtegekaocbalndaaGreatDoor
open Go.RowKit

/-- a store on its disk, all of it new since w0. -/
structure S22 (w0 w : World) (s q p m : Nat) (base : Nm) (res g : Int) (b : Bool) (d : Dk) (L : Lg) : Prop where
  sto : Sto w s q p m base res g b d L
  below : Below w0.heap.size w0 w
  new : w0.heap.size ≤ p ∧ w0.heap.size ≤ m ∧ w0.heap.size ≤ q ∧ w0.heap.size ≤ s
theorem S22.after {w0 w w' : World} {s q p m : Nat} {base : Nm} {res g : Int} {b : Bool} {d : Dk} {L : Lg} (h : S22 w0 w s q p m base res g b d L) (hb : Below w.heap.size w w') : S22 w0 w' s q p m base res g b d L := ⟨h.sto.below hb, h.below.trans (hb.mono h.below.size), h.new⟩
theorem below_bw2 {w0 w w' : World} {S : List Nat} (h : Below w0.heap.size w0 w) (hb : Bw w w' S) (hs : ∀ k ∈ S, w0.heap.size ≤ k) : Below w0.heap.size w0 w' :=
  ⟨hb.os.trans h.os, hb.tape.trans h.tape, hb.output.trans h.output, Nat.le_trans h.size hb.size, fun k hk => (hb.block k (Nat.lt_of_lt_of_le hk h.size) (fun h4 => by have := hs k h4; omega)).trans (h.block k hk)⟩
theorem S22.commit {w0 w : World} {s q p m : Nat} {base : Nm} {res g : Int} {d d2 : Dk} {L L2 : Lg} {z : Nat} (h : S22 w0 w s q p m base res g false d L) (hok : L.Ok) (hw : d.writes < 100000000000) (b : List UInt8) (n : Nat) (hn : n = b.length) (C : Option Addr) (capb : Nat) (hC : Bs w w.heap.size C b) (hC0 : C = none → b = []) (hr : lcommit L d b = (L2, d2, z)) :
    Calls Tryz.prog 12 #[.pointer (some ⟨s, 0, none⟩), .slice C n capb] w fun e w' => e = .returned (.int .i64 z) ∧ S22 w0 w' s q p m base res g L2.broken d2 L2 := by
  have := scommit_at h.sto hok hw b n hn C capb hC hC0
  rw [hr] at this
  refine this.mono ?_
  rintro e w' ⟨he, h1, h2⟩
  exact ⟨he, h1, below_bw2 h.below h2 (by simp [h.new]), h.new⟩
def nmT1 : Nm := [116, 49]
def nmL0 : Nm := [116, 49, 46, 108, 111, 103, 46, 48]
def fr12 : List UInt8 := [0, 0, 0, 2, 255, 255, 255, 253, 1, 2, 3, 248, 159, 82]
def fr3 : List UInt8 := [0, 0, 0, 1, 255, 255, 255, 254, 3, 65, 45, 160, 165]
theorem open_fresh : sopen0 (emptyDk 1000) nmT1 300 = ⟨emptyDk 1000, some ⟨nmL0, 100, 0, 0, false⟩, [], 0⟩ := by kernel_rfl
theorem com_one : lcommit ⟨nmL0, 100, 0, 0, false⟩ (emptyDk 1000) [1, 2] = (⟨nmL0, 100, 1, 14, false⟩, ⟨1000, [(nmL0, ⟨fr12, 14, true⟩)], -1, 2⟩, 0) := by kernel_rfl
theorem com_two : lcommit ⟨nmL0, 100, 1, 14, false⟩ ⟨1000, [(nmL0, ⟨fr12, 14, true⟩)], -1, 2⟩ [3] = (⟨nmL0, 100, 2, 27, false⟩, ⟨1000, [(nmL0, ⟨fr12 ++ fr3, 27, true⟩)], -1, 4⟩, 0) := by kernel_rfl
theorem open_again : sopen0 ⟨1000, [(nmL0, ⟨fr12 ++ fr3, 27, true⟩)], -1, 4⟩ nmT1 300 = ⟨⟨1000, [(nmL0, ⟨fr12 ++ fr3, 27, true⟩)], -1, 4⟩, some ⟨nmL0, 100, 2, 27, false⟩, [[1, 2], [3]], 0⟩ := by kernel_rfl
theorem ls_two2 {w : World} {g1 g2 g : Nat} {a b : List UInt8} (h1 : w.heap[g1]? = some (.cells (bcells a).toArray 5 (0, 0))) (h2 : w.heap[g2]? = some (.cells (bcells b).toArray 5 (0, 0))) (h : w.heap[g]? = some (.cells #[.slice (some ⟨g1, 0, none⟩) a.length a.length, .slice (some ⟨g2, 0, none⟩) b.length b.length] 30 (0, 0))) : Ls w w.heap.size (some ⟨g, 0, none⟩) [a, b] := by
  intro i hi
  have hc : i = 0 ∨ i = 1 := by simp at hi; omega
  rcases hc with rfl | rfl
  · exact ⟨g, 0, rfl, lt_blk h, _, _, by have := cell_blk h 0; exact this, Bs.blk h1, by intro h; cases h⟩
  · exact ⟨g, 0, rfl, lt_blk h, _, _, by have := cell_blk h 1; exact this, Bs.blk h2, by intro h; cases h⟩
set_option maxRecDepth 100000 in
set_option maxHeartbeats 4000000 in
theorem awake22 (w : World) : Calls Tryz.prog 5 #[] w fun e w' => e = .returned (.bool true) ∧ Below w.heap.size w w' := by
  have HNW := Lib.hid (new_at 1000 (by decide) (by decide) w)
  go_enter Tryz.func5, Tryz.ntmps5
  go_wp2_with fail
  refine HNW.out.mono ?_
  rintro e w1 ⟨rfl, hd1, hb1⟩
  have HB1 := Lib.hid hb1; have HD1 := Lib.hid hd1
  have hop := sopen0_at hd1 (by decide) nmT1 (by decide) 300 (by decide) (by kernel_rfl) (by show 0 ≤ _; omega)
  rw [open_fresh] at hop
  have HOP := Lib.hid hop
  clear hd1 hb1 HNW hop
  go_wp2_with fail
  refine HOP.out.mono ?_
  rintro e w2 ⟨hd2, hw2, pv, A, c, rfl, _, _, _, s, q, rfl, hst, hlg, hs, hq, _⟩
  have hsz := HB1.out.size
  have HS2 : Hid (S22 w w2 s q (w.heap.size + 1) w.heap.size nmT1 300 0 false (emptyDk 1000) ⟨nmL0, 100, 0, 0, false⟩) := Lib.hid ⟨⟨hd2, hlg, hst⟩, below_bw2 HB1.out hw2.bw (by simp), by omega, Nat.le_refl _, by omega, by omega⟩
  clear hd2 hw2 hst hlg HOP
  go_wp2_with fail
  obtain ⟨hbx, hby⟩ := boxes1 w2 (.cells #[.int .u8 1, .int .u8 2] 5)
  have HX3 := Lib.hid hbx
  have HS3 := Lib.hid (HS2.out.after hby)
  clear hbx hby HS2
  generalize w2.alloc (.cells #[.int .u8 1, .int .u8 2] 5) = w3 at *
  refine (HS3.out.commit ⟨by decide, by decide, by decide, by decide⟩ (by decide) [1, 2] 2 rfl (some ⟨w2.heap.size, 0, none⟩) 2 (Bs.blk (l := [1, 2]) HX3.out) (by intro h; cases h) com_one).mono ?_
  rintro e w4 ⟨rfl, hs4⟩
  have HS4 := Lib.hid hs4
  clear hs4 HS3 HX3
  go_wp2_with fail
  obtain ⟨hbx, hby⟩ := boxes1 w4 (.cells #[.int .u8 3] 5)
  have HX5 := Lib.hid hbx
  have HS5 := Lib.hid (HS4.out.after hby)
  clear hbx hby HS4
  generalize w4.alloc (.cells #[.int .u8 3] 5) = w5 at *
  refine (HS5.out.commit ⟨by decide, by decide, by decide, by decide⟩ (by decide) [3] 1 rfl (some ⟨w4.heap.size, 0, none⟩) 1 (Bs.blk (l := [3]) HX5.out) (by intro h; cases h) com_two).mono ?_
  rintro e w6 ⟨rfl, hs6⟩
  have HS6 := Lib.hid hs6
  have hop := sopen0_at hs6.sto.disk (by decide) nmT1 (by decide) 300 (by decide) (by kernel_rfl) (by show 27 ≤ _; omega)
  rw [open_again] at hop
  have HOP := Lib.hid hop
  clear hs6 HS5 HX5 hop
  go_wp2_with fail
  refine HOP.out.mono ?_
  rintro e w7 ⟨hd7, hw7, pv, A7, c7, rfl, hls, _, _, s7, q7, rfl, hst, hlg, _, _, _⟩
  have HB7 : Hid (Below w.heap.size w w7) := Lib.hid (below_bw2 HS6.out.below hw7.bw (by have := HS6.out.new; simp))
  have HLS := Lib.hid hls
  clear hd7 hw7 hls hst hlg HOP HS6
  simp only [List.length_cons, List.length_nil]
  go_wp2_with fail
  obtain ⟨b0_, b1_, b2_, hb_⟩ := boxes3 w7 (.cells #[.int .u8 1, .int .u8 2] 5) (.cells #[.int .u8 3] 5) (.cells #[.slice (some ⟨w7.heap.size, 0, none⟩) 2 2, .slice (some ⟨w7.heap.size + 1, 0, none⟩) 1 1] 30)
  generalize ((w7.alloc (.cells #[.int .u8 1, .int .u8 2] 5)).alloc (.cells #[.int .u8 3] 5)).alloc (.cells #[.slice (some ⟨w7.heap.size, 0, none⟩) 2 2, .slice (some ⟨w7.heap.size + 1, 0, none⟩) 1 1] 30) = w8 at *
  have T0b : Hid (∀ W, Below w8.heap.size w8 W → W.heap[w7.heap.size]? = some (.cells #[.int .u8 1, .int .u8 2] 5 (0, 0))) := Lib.hid (fun W hW => (hW.block _ (lt_blk b0_)).trans b0_)
  have T0 : Hid (∀ W, Below w8.heap.size w8 W → W.cell? ⟨w7.heap.size, 0, none⟩ = some (.int .u8 1) ∧ W.cell? ⟨w7.heap.size, 1, none⟩ = some (.int .u8 2)) := Lib.hid (fun W hW => by have e := (hW.block _ (lt_blk b0_)).trans b0_; exact ⟨by rw [cell_blk e]; rfl, by rw [cell_blk e]; rfl⟩)
  have T1b : Hid (∀ W, Below w8.heap.size w8 W → W.heap[w7.heap.size + 1]? = some (.cells #[.int .u8 3] 5 (0, 0))) := Lib.hid (fun W hW => (hW.block _ (lt_blk b1_)).trans b1_)
  have T1 : Hid (∀ W, Below w8.heap.size w8 W → W.cell? ⟨w7.heap.size + 1, 0, none⟩ = some (.int .u8 3)) := Lib.hid (fun W hW => by have e := (hW.block _ (lt_blk b1_)).trans b1_; exact by rw [cell_blk e]; rfl)
  have T2b : Hid (∀ W, Below w8.heap.size w8 W → W.heap[w7.heap.size + 1 + 1]? = some (.cells #[.slice (some ⟨w7.heap.size, 0, none⟩) 2 2, .slice (some ⟨w7.heap.size + 1, 0, none⟩) 1 1] 30 (0, 0))) := Lib.hid (fun W hW => (hW.block _ (lt_blk b2_)).trans b2_)
  have T2 : Hid (∀ W, Below w8.heap.size w8 W → W.cell? ⟨w7.heap.size + 1 + 1, 0, none⟩ = some (.slice (some ⟨w7.heap.size, 0, none⟩) 2 2) ∧ W.cell? ⟨w7.heap.size + 1 + 1, 1, none⟩ = some (.slice (some ⟨w7.heap.size + 1, 0, none⟩) 1 1)) := Lib.hid (fun W hW => by have e := (hW.block _ (lt_blk b2_)).trans b2_; exact ⟨by rw [cell_blk e]; rfl, by rw [cell_blk e]; rfl⟩)
  have HB8 := Lib.hid hb_
  clear hb_ b0_ b1_ b2_
  have HLS8 := Lib.hid ((HLS.out.below HB8.out).more HB8.out.size)
  have HLL : Hid (Ls w8 w8.heap.size (some ⟨w7.heap.size + 1 + 1, 0, none⟩) [[1, 2], [3]]) := Lib.hid (ls_two2 (g1 := w7.heap.size) (g2 := w7.heap.size + 1) (a := [1, 2]) (b := [3]) (T0b.out w8 (Below.refl _ _)) (T1b.out w8 (Below.refl _ _)) (T2b.out w8 (Below.refl _ _)))
  have hli := lists22 [[1, 2], [3]] [[1, 2], [3]] (by decide) (by decide) A7 (some ⟨w7.heap.size + 1 + 1, 0, none⟩) c7 2 w8.heap.size w8.heap.size w8 HLS8.out (Nat.le_refl _) HLL.out (Nat.le_refl _)
  rw [decide_eq_true rfl] at hli
  have HLI : Hid (Calls Tryz.prog 22 #[.slice A7 2 c7, .slice (some ⟨w7.heap.size + 1 + 1, 0, none⟩) 2 2] w8 fun e w' => e = .returned (.bool true) ∧ Below w8.heap.size w8 w') := Lib.hid hli
  clear hli
  refine HLI.out.mono ?_
  rintro e w9 ⟨rfl, hb⟩
  have HB9 := Lib.hid ((HB7.out.trans (HB8.out.mono HB7.out.size)).trans (hb.mono (by have := HB7.out.size; have := HB8.out.size; omega)))
  clear hb
  go_wp2_with fail
  go_ret
  exact ⟨rfl, HB9.out⟩
end Go.Proofs.YtegekaocbalndaaGreatDoor
end
