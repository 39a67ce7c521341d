/- the digest of parts joined. -/
import Derived.Test.YtkdkpnidiehdfaaDoorLi
set_option linter.unusedSimpArgs false
set_option linter.unusedVariables false
namespace Go.Proofs.YtkdkpnidiehdfaaDoor
open Go.RowKit

def joined (ls : List (List UInt8)) : List UInt8 := ls.flatMap fun l => eight l.length ++ l
theorem joined_app (a b : List (List UInt8)) : joined (a ++ b) = joined a ++ joined b := by simp [joined]
theorem joined_one (l : List UInt8) : joined [l] = eight l.length ++ l := by simp [joined]
theorem eight_len (n : Nat) : (eight n).length = 8 := by simp [eight, eightL_length]
theorem total_take (ls : List (List UInt8)) (k : Nat) : (joined (ls.take k)).length ≤ (joined ls).length := by
  have : joined ls = joined (ls.take k) ++ joined (ls.drop k) := by rw [← joined_app, List.take_append_drop]
  rw [this, List.length_append]; omega
theorem take_snoc' (ls : List (List UInt8)) (k : Nat) (h : k < ls.length) : ls.take (k + 1) = ls.take k ++ [ls.getD k []] := by
  rw [List.take_succ_eq_append_getElem h]; simp [List.getD_eq_getElem?_getD, h]
theorem eight_cells (n : Nat) : bcells (eight n) = [.int .u8 (bt n 56).toNat, .int .u8 (bt n 48).toNat, .int .u8 (bt n 40).toNat, .int .u8 (bt n 32).toNat, .int .u8 (bt n 24).toNat, .int .u8 (bt n 16).toNat, .int .u8 (bt n 8).toNat, .int .u8 (bt n 0).toNat] := rfl
theorem bt0 (n : Nat) : ((n : Int)) % 256 = ((bt n 0).toNat : Int) := by have := u8_div n 0; simpa using this

theorem eight_lit (n : Nat) (h : n ≤ 1000000) : (#[.int .u8 ((n : Int) / 72057594037927936), .int .u8 ((n : Int) / 281474976710656), .int .u8 ((n : Int) / 1099511627776), .int .u8 ((n : Int) / 4294967296), .int .u8 ((n : Int) / 16777216), .int .u8 ((n : Int) / 65536), .int .u8 ((n : Int) / 256 % 256), .int .u8 ((n : Int) % 256)] : Array Value) = (bcells (eight n)).toArray := by
  rw [eight_cells]
  have h56 := u8_div n 56
  have h48 := u8_div n 48
  have h40 := u8_div n 40
  have h32 := u8_div n 32
  have h24 := u8_div n 24
  have h16 := u8_div n 16
  have h8 := u8_div n 8
  have h0 := bt0 n
  simp only [Int.reducePow] at h56 h48 h40 h32 h24 h16 h8
  rw [← h56, ← h48, ← h40, ← h32, ← h24, ← h16, ← h8, ← h0]
  rw [show (n : Int) / 72057594037927936 % 256 = (n : Int) / 72057594037927936 by omega, show (n : Int) / 281474976710656 % 256 = (n : Int) / 281474976710656 by omega, show (n : Int) / 1099511627776 % 256 = (n : Int) / 1099511627776 by omega, show (n : Int) / 4294967296 % 256 = (n : Int) / 4294967296 by omega, show (n : Int) / 16777216 % 256 = (n : Int) / 16777216 by omega, show (n : Int) / 65536 % 256 = (n : Int) / 65536 by omega]
set_option maxRecDepth 100000 in
set_option maxHeartbeats 2000000 in
theorem join_any (ls : List (List UInt8)) (hn : ls.length ≤ 1000) (hl : (joined ls).length ≤ 1000000) (A : Option Addr) (cap : Nat) (w : World) (hA : Ls w w.heap.size A ls) (hk : KMem w) :
    Calls Tryd.prog 29 #[.slice A ls.length cap] w fun e w' => e = .returned (dg (sha (joined ls))) ∧ Below w.heap.size w w' := by
  have HA := Lib.hid hA; have HL := Lib.hid hl; have HK := Lib.hid hk
  clear hA hl hk
  go_enter Tryd.func29, Tryd.ntmps29
  go_upto_region 1 with (fail)
  have Hsz : Hid ((bcells zeros32).toArray.size = 32) := Lib.hid rfl
  have hz := zeros_dg
  have Hdg : Hid (dg zeros32 = .agg (bcells zeros32).toArray) := Lib.hid rfl
  rw [Hdg.out] at hz
  injection hz with hz
  rw [← hz]
  clear hz
  generalize (bcells zeros32).toArray = zs at *
  generalize hw1 : World.alloc _ _ = w1
  have Hr : Hid (w1.heap[w.heap.size]? = some (.cells zs 25 (0, 0))) := Lib.hid (by subst hw1; exact heap_alloc_new _ _)
  have Hb1 : Hid (Below w.heap.size w w1) := Lib.hid (by subst hw1; exact (Below.refl _ _).alloc (Nat.le_refl _) _)
  have HK1 := Lib.hid (KMem.below HK.out Hb1.out HK.out.pos)
  have Hrp : Hid (0 < w.heap.size) := Lib.hid (by have := HK.out.pos; omega)
  clear hw1
  go_wp2_with fail
  refine (new_any w1).mono ?_
  rintro e w2 ⟨g, rfl, hg2, hc2, hb2⟩
  have Hg2 := Lib.hid hg2; have Hc2 := Lib.hid hc2; have Hb2 := Lib.hid hb2
  have Hrg : Hid (w.heap.size < g) := Lib.hid (Nat.lt_of_lt_of_le (lt_blk Hr.out) hg2)
  have Hr2 : Hid (w2.heap[w.heap.size]? = some (.cells zs 25 (0, 0))) := Lib.hid ((hb2.block _ (lt_blk Hr.out)).trans Hr.out)
  have HB2 := Lib.hid (Hb1.out.trans (hb2.mono Hb1.out.size))
  have HK2 := Lib.hid (KMem.below HK1.out hb2 HK1.out.pos)
  have Hgk : Hid (0 < g) := Lib.hid (by have := Hrp.out; have := Hrg.out; omega)
  clear hg2 hc2 hb2
  generalize hr : w.heap.size = r at *
  have HR := Lib.hid hr
  clear hr
  go_wp2_with fail
  go_loopw [10] (fun i wr => ∃ (k : Nat), k ≤ ls.length ∧ i = .int .i64 k ∧ wr.heap[g]? = some (.cells (HS.init.take_ (joined (ls.take k))).cells 35 (0, 0)) ∧ wr.heap[r]? = some (.cells zs 25 (0, 0)) ∧ KMem wr ∧ Below r w wr) (fun i _ => ls.length - (intOf i).toNat)
  case atStart => exact ⟨0, by omega, rfl, Hc2.out, Hr2.out, HK2.out, HB2.out⟩
  case round =>
    obtain ⟨k, hk, rfl, hg, hr, hkm, hb⟩ := hrel
    have Hg := Lib.hid hg; have Hr := Lib.hid hr; have Hkm := Lib.hid hkm; have Hb := Lib.hid hb
    clear hg hr hkm hb
    have hw64 : (HS.init.take_ (joined (ls.take k))).wait.length = 64 := by rw [take_wait]; rfl
    have Hnn : Hid ((HS.init.take_ (joined (ls.take k))).n = (joined (ls.take k)).length) := Lib.hid (by rw [take_n]; exact Nat.zero_add _)
    have Hw64 := Lib.hid hw64
    clear hw64
    by_cases hlt : k < ls.length
    · obtain ⟨b, off, rfl, hbl, Ai, ci, hc, hs, hnil⟩ := HA.out k hlt
      have hc1 := (Hb.out.cell (p := ⟨b, off + k, none⟩) hbl).trans hc
      have Hs := Lib.hid (hs.below Hb.out)
      have Htk := Lib.hid (take_snoc' ls k hlt)
      have Htot : Hid ((joined (ls.take (k + 1))).length ≤ 1000000) := Lib.hid (Nat.le_trans (total_take ls (k + 1)) HL.out)
      clear hc hs
      generalize ls.getD k [] = l at *
      have Hj : Hid (joined (ls.take (k + 1)) = joined (ls.take k) ++ (eight l.length ++ l)) := Lib.hid (by rw [Htk.out, joined_app, joined_one])
      have Hlen : Hid ((joined (ls.take k)).length + 8 + l.length ≤ 1000000) := Lib.hid (by have := Htot.out; rw [Hj.out] at this; simp [eight_len] at this; omega)
      have Htk2 : Hid ((HS.init.take_ (joined (ls.take k))).take_ (eight l.length) = HS.init.take_ (joined (ls.take k) ++ eight l.length)) := Lib.hid (take_app _ _ _).symm
      have Htk3 : Hid ((HS.init.take_ (joined (ls.take k) ++ eight l.length)).take_ l = HS.init.take_ (joined (ls.take (k + 1)))) := Lib.hid (by rw [← take_app, Hj.out, List.append_assoc])
      generalize HS.init.take_ (joined (ls.take k)) = h0 at *
      generalize hh1 : HS.init.take_ (joined (ls.take k) ++ eight l.length) = h1 at *
      have Hh1 := Lib.hid hh1
      clear hh1
      generalize hh2 : HS.init.take_ (joined (ls.take (k + 1))) = h2 at *
      have Hh2 := Lib.hid hh2
      clear hh2
      have hl64 : l.length ≤ 1000000 := by have := Hlen.out; omega
      go_wp2_with fail
      rw [eight_lit l.length hl64]
      generalize hW : World.alloc _ _ = W
      have HBW : Hid (Below wr.heap.size wr W) := Lib.hid (by subst hW; exact below_alloc _ _)
      have HgW := Lib.hid ((HBW.out.block g (lt_blk Hg.out)).trans Hg.out)
      have HbW : Hid (Bn W g (some ⟨wr.heap.size, 0, none⟩) (eight l.length)) := Lib.hid (by
        have h1 := lt_blk Hg.out
        intro j hj
        have h := Bs.blk (w := W) (g := wr.heap.size) (T := 5) (l := eight l.length) (by subst hW; exact heap_alloc_new _ _)
        obtain ⟨b', off', e, hb', hc'⟩ := h j hj
        injection e with e
        injection e with e1 e2
        subst e1 e2
        exact ⟨_, _, rfl, by omega, hb', hc'⟩)
      have HKW := Lib.hid (KMem.below Hkm.out HBW.out (by have := Hgk.out; have := lt_blk Hg.out; omega))
      have HrW := Lib.hid ((HBW.out.block r (lt_blk Hr.out)).trans Hr.out)
      have HbrW := Lib.hid (Hb.out.trans (HBW.out.mono (Nat.le_of_lt (lt_blk Hr.out))))
      clear hW
      have He8 : Hid ((eight l.length).length = 8) := Lib.hid (eight_len _)
      have Hq1 : Hid (h0.n + (eight l.length).length ≤ 1000000000000) := Lib.hid (by rw [Hnn.out, He8.out]; have := Hlen.out; omega)
      have Hw8 := fun (P : Prop) => P
      rw [show (8 : Nat) = (eight l.length).length from He8.out.symm]
      refine (write_any h0 Hw64.out (eight l.length) Hq1.out g _ _ W HgW.out HbW.out HKW.out Hgk.out).mono ?_
      rintro e W2 ⟨rfl, hg2, hgr2⟩
      rw [Htk2.out] at hg2
      have Hg3 := Lib.hid hg2
      have Hgr2 := Lib.hid hgr2
      have HB3 : Hid (Below r w W2) := Lib.hid (HbrW.out.grown hgr2 (Nat.le_of_lt (lt_blk HrW.out)) (by intro k e; injection e with e; have := Hrg.out; omega))
      have HK3 := Lib.hid (KMem.grown HKW.out hgr2 (by intro g' e; injection e with e; have := Hgk.out; omega))
      have Hr3 : Hid (W2.heap[r]? = some (.cells zs 25 (0, 0))) := Lib.hid (by
        rw [hgr2.block r (lt_blk HrW.out) (by intro e; injection e with e; have := Hrg.out; omega)]; exact HrW.out)
      have Hb3 : Hid (Bn W2 g Ai l) := Lib.hid (by
        have h := (HA.out k hlt)
        have hh := (Hs.out.below (HBW.out.mono (Nat.le_of_lt (lt_blk Hr.out))))
        have h3 : Bs W2 r Ai l := hh.keep fun b o hb => World.cell?_of_block (hgr2.block b (Nat.lt_trans hb (lt_blk HrW.out)) (by intro e; injection e with e; have := Hrg.out; omega))
        exact h3.bn (Nat.le_of_lt Hrg.out) (Nat.le_of_lt (lt_blk Hg3.out)))
      have Hq2 : Hid (h1.n + l.length ≤ 1000000000000) := Lib.hid (by
        have : h1.n = (joined (ls.take k) ++ eight l.length).length := by rw [← Hh1.out, take_n]; exact Nat.zero_add _
        rw [this, List.length_append, He8.out]; have := Hlen.out; omega)
      have Hw1 : Hid (h1.wait.length = 64) := Lib.hid (by rw [← Hh1.out, take_wait]; rfl)
      clear hg2 hgr2
      go_wp2_with fail
      refine (write_any h1 Hw1.out l Hq2.out g _ _ W2 Hg3.out Hb3.out HK3.out Hgk.out).mono ?_
      rintro e W3 ⟨rfl, hg4, hgr4⟩
      rw [Htk3.out] at hg4
      have Hg4 := Lib.hid hg4
      have HB4 : Hid (Below r w W3) := Lib.hid (HB3.out.grown hgr4 (Nat.le_of_lt (lt_blk Hr3.out)) (by intro k e; injection e with e; have := Hrg.out; omega))
      have HK4 := Lib.hid (KMem.grown HK3.out hgr4 (by intro g' e; injection e with e; have := Hgk.out; omega))
      have Hr4 : Hid (W3.heap[r]? = some (.cells zs 25 (0, 0))) := Lib.hid (by
        rw [hgr4.block r (lt_blk Hr3.out) (by intro e; injection e with e; have := Hrg.out; omega)]; exact Hr3.out)
      clear hg4 hgr4
      go_wp2_with fail
      go_roundw
      case rel => exact ⟨k + 1, by omega, by go_num, by rw [Hh2.out]; exact Hg4.out, Hr4.out, HK4.out, HB4.out⟩
      case measure => simp [intOf]; omega
    · obtain rfl : k = ls.length := by omega
      have Hful : Hid (HS.init.take_ (joined (ls.take ls.length)) = HS.init.take_ (joined ls)) := Lib.hid (by rw [List.take_length])
      rw [Hful.out] at Hw64 Hg Hnn
      have Hlt2 : Hid ((joined (ls.take ls.length)).length ≤ 1000000) := Lib.hid (by rw [List.take_length]; exact HL.out)
      have Hfin : Hid ((HS.init.take_ (joined ls)).finish = sha (joined ls)) := Lib.hid (finish_sha _)
      have Hnb : Hid ((HS.init.take_ (joined ls)).n ≤ 1000000000) := Lib.hid (by rw [Hnn.out]; have := Hlt2.out; omega)
      generalize HS.init.take_ (joined ls) = hf at *
      go_wp2_with fail
      refine (sum_dig hf Hw64.out Hnb.out g wr Hg.out Hkm.out).mono ?_
      rintro e W ⟨rfl, hbW⟩
      have HrW := Lib.hid ((hbW.block r (lt_blk Hr.out)).trans Hr.out)
      have HbW := Lib.hid (Hb.out.trans (hbW.mono (Nat.le_of_lt (lt_blk Hr.out))))
      clear hbW
      rw [Hfin.out]
      have Hsl : Hid ((bcells (sha (joined ls))).toArray.size = 32) := Lib.hid (by simp [bcells, sha_length])
      have Hon2 : Hid ((bcells (sha (joined ls))).toArray.all (·.oneCell') = true) := Lib.hid (by
        rw [Array.all_eq_true_iff_forall_mem]; intro x hx; exact bcells_one _ x (by simpa using hx))
      have Hdd : Hid (dg (sha (joined ls)) = .agg (bcells (sha (joined ls))).toArray) := Lib.hid rfl
      rw [Hdd.out]
      generalize (bcells (sha (joined ls))).toArray = ys at *
      go_wp2_with (refine wpList_store_row (o := ⟨none, .store 25 (.tmp 2) (.tmp 48), _, _, _, _⟩) rfl _ _ _ rfl r ys rfl rfl _ zs HrW.out (by rw [Hsl.out]; kernel_rfl) (by rw [Hsl.out, Hsz.out]) Hon2.out ?_)
      refine bodyPost_ret (results_cell_row rfl _ _ r 25 ys (0, 0) _ rfl (setRow_heap _ _ _ ys _ (0, 0) HrW.out) Tryd.underlying25 rfl (by rw [Hsl.out]; kernel_rfl)) rfl ⟨by rw [Hdd.out], ?_⟩
      rw [HR.out]
      exact below_setRow HbW.out (Nat.le_refl _) _
end Go.Proofs.YtkdkpnidiehdfaaDoor
