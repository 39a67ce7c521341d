/- several texts in one: octet.Short and ReadShort: numbers in groups of seven bits., octet.Fields, store.laid, store.small., store.small; octet.ReadShort of a number's own bytes., octet.ReadShort of a number's own bytes., octet.ReadFields of fields' own bytes., store.read of a snapshot's own bytes. -/
import Derived.Test.YtegekaocbalndaaGreatDoorMg4
import Derived.Test.YtegekaocbalndaaGreatDoorMg14
import Derived.Test.YtegekaocbalndaaGreatDoorMg15
import Derived.Test.YtegekaocbalndaaGreatDoorOf
import Derived.Test.YtegekaocbalndaaGreatDoorMg18
section
set_option linter.unusedSimpArgs false
set_option linter.unusedVariables false
namespace Go.Proofs.YtegekaocbalndaaGreatDoor
open Go.RowKit

/-- a number's shortest bytes. -/
def shortF : Nat → Nat → List UInt8
  | 0, n => [UInt8.ofNat n]
  | f + 1, n => if n ≤ 127 then [UInt8.ofNat n] else UInt8.ofNat (n % 128 + 128) :: shortF f (n / 128)
def shortL (n : Nat) : List UInt8 := shortF 9 n
theorem shortF_small (f n : Nat) (h : n ≤ 127) : shortF f n = [UInt8.ofNat n] := by
  cases f with
  | zero => rfl
  | succ f => unfold shortF; rw [if_pos h]
theorem shortF_len : ∀ f n, 1 ≤ (shortF f n).length ∧ (shortF f n).length ≤ f + 1
  | 0, n => ⟨Nat.le_refl _, Nat.le_refl _⟩
  | f + 1, n => by
    unfold shortF
    split
    · simp
    · have := shortF_len f (n / 128)
      simp only [List.length_cons]
      omega
theorem or_128 : ∀ a : Nat, a < 256 → bits .or .u8 (a : Int) 128 = ((a % 128 + 128 : Nat) : Int) := by decide +kernel
set_option maxRecDepth 100000 in
set_option maxHeartbeats 2000000 in
theorem short_at (n : Nat) (hn : n < 9223372036854775808) (w : World) : Calls Tryz.prog 84 #[.int .u64 n] w fun e w' => ∃ v, e = .returned v ∧ w'.ownsRow w.heap.size 5 1 v (shortL n).length (bcells (shortL n)) ∧ Below w.heap.size w w' := by
  have hp : n < 128 ^ (9 + 1) := Nat.lt_of_lt_of_le hn (by decide)
  clear hn
  obtain ⟨sl, hsl⟩ : ∃ sl, sl = shortL n := ⟨_, rfl⟩
  have HSL : Hid (sl = [] ++ shortF 9 n) := Lib.hid hsl
  have hlen := (shortF_len 9 n).2
  rw [← hsl]
  have hslen : sl.length ≤ 10 := by rw [hsl]; exact hlen
  clear hsl hlen
  go_enter Tryz.func84, Tryz.ntmps84
  go_wp2_with fail
  go_loopw [0, 3] (fun nv ov wr => ∃ (f k : Nat) (pre : List UInt8), nv = .int .u64 k ∧ k < 128 ^ (f + 1) ∧ sl = pre ++ shortF f k ∧ wr.ownsRow w.heap.size 5 1 ov pre.length (bcells pre) ∧ Below w.heap.size w wr) (fun nv _ _ => (intOf nv).toNat)
  case atStart => exact ⟨9, n, [], rfl, hp, HSL.out, World.ownsRow_nil _ _ _ _, Below.refl _ _⟩
  case round =>
    obtain ⟨f, k, pre, rfl, hk, hs, hown, hb⟩ := hrel
    have HS := Lib.hid hs; have HO := Lib.hid hown; have HB := Lib.hid hb; have HK := Lib.hid hk
    have hpl : pre.length ≤ 10 := by have := congrArg List.length hs; rw [List.length_append] at this; omega
    clear hs hown hb hk
    obtain ⟨pl, hpl2⟩ : ∃ pl, pl = pre.length := ⟨_, rfl⟩
    rw [← hpl2] at HO hpl
    have HPL := Lib.hid hpl2
    clear hpl2
    by_cases h127 : 127 < k
    · obtain ⟨f', rfl⟩ : ∃ f', f = f' + 1 := by
        cases f with
        | zero => have := HK.out; omega
        | succ f' => exact ⟨f', rfl⟩
      have HST : Hid (shortF (f' + 1) k = UInt8.ofNat (k % 128 + 128) :: shortF f' (k / 128)) := Lib.hid (by rw [shortF, if_neg (by omega)])
      have hor := or_128 (k % 256) (by omega)
      have hor2 : bits .or .u8 ((k : Int) % 256) 128 = ((UInt8.ofNat (k % 128 + 128)).toNat : Int) := by
        rw [show ((k : Int) % 256) = ((k % 256 : Nat) : Int) by omega, hor, UInt8.toNat_ofNat']
        omega
      have hx7 : (k : Int) / 128 = ((k / 128 : Nat) : Int) := by omega
      have HKD : Hid (k / 128 < 128 ^ (f' + 1)) := Lib.hid (by
        have := HK.out
        rw [Nat.pow_succ] at this
        exact Nat.div_lt_of_lt_mul (by rw [Nat.mul_comm]; exact this))
      have HSN : Hid (sl = (pre ++ [UInt8.ofNat (k % 128 + 128)]) ++ shortF f' (k / 128)) := Lib.hid (by rw [HS.out, HST.out]; simp)
      generalize UInt8.ofNat (k % 128 + 128) = by1 at *
      clear hor
      obtain ⟨A3, c3, rfl, _⟩ := own_rd HO.out
      go_wp2_with (at_builtin; refine wpList_append_one0 E5 rfl (.tmp 8) (.tmp 12) rfl w.heap.size (.int .u8 (by1.toNat : Nat)) rfl _ pl (bcells pre) rfl HO.out rfl (by omega) (by omega) w (Nat.le_refl _) HB.out ?_; intro v6 w6 h2 h3 h4 h5; clear h4 h5; obtain ⟨A8, c8, rfl, _⟩ := own_rd h2; have O6 := Lib.hid h2; have HB6 := Lib.hid h3; clear h2 h3)
      have hsh : ∀ W, (binOp .shr 88 (.int .u64 (k : Int)) (.int .u64 7)).run Tryz.prog W = .ok (.int .u64 (k / 128 : Nat)) W := fun W => by
        simp [binOp, Op.shift]
        show (k : Int).fdiv (2 ^ 7) = _
        rw [Int.fdiv_eq_ediv_of_nonneg _ (by decide)]
        rfl
      unfold Oper.wp execOp
      simp [eqGuard, hsh, Act.eval]
      rw [hx7]
      clear hsh hx7
      go_wp2_with fail
      go_roundw
      case rel => exact ⟨f', k / 128, pre ++ [by1], rfl, HKD.out, HSN.out, by rw [List.length_append, ← HPL.out, bcells_app]; exact O6.out, HB6.out⟩
      case measure => simp [intOf]; omega
    · have HST : Hid (shortF f k = [UInt8.ofNat k]) := Lib.hid (shortF_small f k (by omega))
      have HSN : Hid (sl = pre ++ [UInt8.ofNat k]) := Lib.hid (by rw [HS.out, HST.out])
      have HLN : Hid (sl.length = pl + 1) := Lib.hid (by rw [HSN.out, List.length_append, ← HPL.out]; rfl)
      have HBK : Hid (bcells [UInt8.ofNat k] = [.int .u8 (k : Nat)]) := Lib.hid (by
        show [Value.int .u8 ((UInt8.ofNat k).toNat : Nat)] = _
        rw [UInt8.toNat_ofNat', Nat.mod_eq_of_lt (show k < 2 ^ 8 by omega)])
      obtain ⟨A3, c3, rfl, _⟩ := own_rd HO.out
      go_wp2_with (at_builtin; refine wpList_append_one0 E5 rfl (.tmp 14) (.tmp 17) rfl w.heap.size (.int .u8 (k : Nat)) rfl _ pl (bcells pre) rfl HO.out rfl (by omega) (by omega) w (Nat.le_refl _) HB.out ?_; intro v6 w6 h2 h3 h4 h5; clear h4 h5; obtain ⟨A8, c8, rfl, _⟩ := own_rd h2; have O6 := Lib.hid h2; have HB6 := Lib.hid h3; clear h2 h3)
      go_ret
      exact ⟨_, rfl, by rw [HLN.out, HSN.out, bcells_app, HBK.out]; exact O6.out, HB6.out⟩
end Go.Proofs.YtegekaocbalndaaGreatDoor
end

section
set_option linter.unusedSimpArgs false
set_option linter.unusedVariables false
namespace Go.Proofs.YtegekaocbalndaaGreatDoor
open Go.RowKit

def fieldB (x : List UInt8) : List UInt8 := shortL x.length ++ x
def outK (ls : List (List UInt8)) (k : Nat) : List UInt8 := shortL ls.length ++ (ls.take k).flatMap fieldB
theorem outK_succ {ls : List (List UInt8)} {k : Nat} (h : k < ls.length) : outK ls (k + 1) = (outK ls k ++ shortL (ls.getD k []).length) ++ ls.getD k [] := by
  have e : ls.take (k + 1) = ls.take k ++ [ls[k]] := List.take_succ_eq_append_getElem h
  unfold outK
  rw [e, List.flatMap_append, List.getD_eq_getElem?_getD, List.getElem?_eq_getElem h]
  simp only [List.flatMap_cons, List.flatMap_nil, List.append_nil, fieldB, List.append_assoc, Option.getD_some]
theorem shortL_len (n : Nat) : 1 ≤ (shortL n).length ∧ (shortL n).length ≤ 10 := shortF_len 9 n
theorem outK_le {ls : List (List UInt8)} (hs : ∀ x ∈ ls, x.length ≤ 66000) : ∀ k, k ≤ ls.length → (outK ls k).length ≤ 10 + k * 66010
  | 0, _ => by have := (shortL_len ls.length).2; simp [outK]; omega
  | k + 1, h => by
    rw [outK_succ (by omega), List.length_append, List.length_append]
    have h1 := outK_le hs k (by omega)
    have h2 := (shortL_len (ls.getD k []).length).2
    have h3 : (ls.getD k []).length ≤ 66000 := by
      rw [List.getD_eq_getElem?_getD, List.getElem?_eq_getElem (by omega), Option.getD_some]
      exact hs _ (List.getElem_mem _)
    omega
set_option maxRecDepth 100000 in
set_option maxHeartbeats 4000000 in
theorem fields_at (ls : List (List UInt8)) (K : Nat) (hK : K = ls.length) (hK2 : K ≤ 10) (hs : ∀ x ∈ ls, x.length ≤ 66000) (A : Option Addr) (cap B : Nat) (w : World) (hA : Ls w B A ls) (hB : B ≤ w.heap.size) :
    Calls Tryz.prog 67 #[.slice A K cap] w fun e w' => ∃ v, e = .returned (.tuple #[v, .int .i64 0]) ∧ w'.ownsRow w.heap.size 5 1 v (outK ls K).length (bcells (outK ls K)) ∧ Below w.heap.size w w' := by
  have HA := Lib.hid hA; have HK := Lib.hid hK
  have HLE := Lib.hid (outK_le hs)
  have HSZ : Hid (∀ k, k < K → (ls.getD k []).length ≤ 66000) := Lib.hid fun k hk => by
    rw [List.getD_eq_getElem?_getD, List.getElem?_eq_getElem (by omega), Option.getD_some]
    exact hs _ (List.getElem_mem _)
  have HO0 : Hid (outK ls 0 = shortL K) := Lib.hid (by simp [outK, hK])
  clear hA hK hs
  go_enter Tryz.func67, Tryz.ntmps67
  go_wp2_with fail
  with_reducible refine (short_at K (by omega) w).mono ?_
  rintro e w1 ⟨v, rfl, ho, hb⟩
  have HO := Lib.hid ho; have HB := Lib.hid hb
  clear ho hb
  go_wp2_with fail
  go_loopw [4, 17] (fun ov iv wr => ∃ k q : Nat, k ≤ K ∧ iv = .int .i64 (k : Nat) ∧ q = (outK ls k).length ∧ wr.ownsRow w.heap.size 5 1 ov q (bcells (outK ls k)) ∧ Below w.heap.size w wr) (fun _ iv _ => K - (intOf iv).toNat)
  case atStart => exact ⟨0, _, by omega, by go_num, rfl, by rw [HO0.out]; exact HO.out, HB.out⟩
  case round =>
    clear HO HB
    obtain ⟨k, q, hk, rfl, hq, ho, hb⟩ := hrel
    have HO := Lib.hid ho; have HB := Lib.hid hb; have HQ := Lib.hid hq
    have hq2 := HLE.out k (by rw [← HK.out]; exact hk)
    rw [← hq] at hq2
    obtain ⟨A4, c4, rfl, _⟩ := own_rd ho
    clear ho hb hq
    by_cases hlt : k < K
    · obtain ⟨b, off, rfl, hb0, Ai, ci, hc, hbs, hz⟩ := HA.out k (by rw [← HK.out]; exact hlt)
      have HST := Lib.hid (outK_succ (ls := ls) (k := k) (by rw [← HK.out]; exact hlt))
      have hn66 := HSZ.out k hlt
      have hc0 := (HB.out.cell (p := ⟨b, off + k, none⟩) (Nat.lt_of_lt_of_le hb0 hB)).trans hc
      have HBS := Lib.hid (hbs.below (HB.out.mono hB)); have HZ := Lib.hid hz
      generalize ls.getD k [] = x at *
      obtain ⟨n, hn⟩ : ∃ n, n = x.length := ⟨_, rfl⟩
      rw [← hn] at hc0 hn66 HST
      have HN := Lib.hid hn
      clear hc hbs hz hn
      have HSH := Lib.hid (short_at n (by omega) wr)
      go_wp2_with fail
      with_reducible refine HSH.out.mono ?_
      rintro e w2 ⟨v2, rfl, ho2, hb2⟩
      obtain ⟨p, hp⟩ : ∃ p, p = (shortL n).length := ⟨_, rfl⟩
      have hp2 := (shortL_len n).2
      rw [← hp] at ho2 hp2
      obtain ⟨A7, c7, rfl, hr7, h07, _⟩ := own_rd ho2
      have HR7 := Lib.hid hr7; have H07 := Lib.hid h07; have HP := Lib.hid hp
      have HO2 := Lib.hid (own_below HO.out hb2)
      have HB2 := Lib.hid (HB.out.trans (hb2.mono HB.out.size))
      have HBS2 := Lib.hid (HBS.out.below (hb2.mono (Nat.le_trans hB HB.out.size)))
      have HZB : Hid (B ≤ w2.heap.size) := Lib.hid (Nat.le_trans hB HB2.out.size)
      clear ho2 hb2 hr7 h07 hp HO HB HBS HSH hc0
      go_wp2_with (first
        | (at_builtin; refine wpList_append_src E5 rfl (.tmp 34) (.tmp 35) rfl w.heap.size _ q _ rfl HO2.out w2.heap.size A7 (bcells (shortL n)) p c7 rfl (by rw [bcells_length, HP.out]) HR7.out H07.out (bcells_one _) (by omega) (by omega) w (Nat.le_refl _) HB2.out ?_; intro v3 w3 h2 h3 h4 h5; have O3 := Lib.hid h2; have B3 := Lib.hid h3; have G3 := Lib.hid (HBS2.out.grown h4 HZB.out (fun g hg => Nat.le_trans hB (HO2.out.lt g hg).1)); clear h2 h3 h4 h5)
        | (at_builtin; refine wpList_append_src E5 rfl (.tmp 36) (.tmp 37) rfl w.heap.size _ (q + p) _ rfl O3.out B Ai (bcells x) n ci rfl (by rw [bcells_length, HN.out]) G3.out.rd (fun h => by rw [HN.out, HZ.out h]; rfl) (bcells_one _) (by omega) (by omega) w (Nat.le_refl _) B3.out ?_; intro v4 w4 h2 h3 h4 h5; obtain ⟨A8, c8, rfl, _⟩ := own_rd h2; have O4 := Lib.hid h2; have B4 := Lib.hid h3; clear h2 h3 h4 h5))
      go_roundw
      case rel => exact ⟨k + 1, q + p + n, by omega, by go_num, by rw [HST.out, List.length_append, List.length_append, ← HQ.out, ← HP.out, ← HN.out], by rw [HST.out, bcells_app, bcells_app]; exact O4.out, B4.out⟩
      case measure => simp [intOf]; omega
    · obtain rfl : k = K := by omega
      go_wp2_with fail
      go_ret2
      exact ⟨_, rfl, by rw [← HQ.out]; exact HO.out, HB.out⟩
theorem ret_pairB {v : Value} {a b : Bool} (h : a = b) : Ending.returned (.tuple #[v, .bool a]) = .returned (.tuple #[v, .bool b]) := by rw [h]
def layL (g : Nat) (s : List UInt8) : List UInt8 := outK [beb 8 g, s] 2
def layLen (n : Nat) : Nat := 10 + (shortL n).length + n
theorem beb_len (k n : Nat) : (beb k n).length = k := by
  induction k generalizing n with
  | zero => rfl
  | succ k ih => simp [beb, ih]
theorem layL_len (g : Nat) (s : List UInt8) : (layL g s).length = layLen s.length := by
  unfold layL outK layLen
  simp only [List.take_succ_cons, List.take_zero, List.flatMap_cons, List.flatMap_nil, List.append_nil, List.length_append, fieldB, beb_len]
  have h1 : (shortL 8).length = 1 := by decide
  have h2 : (shortL [beb 8 g, s].length).length = 1 := by show (shortL 2).length = 1; decide
  rw [h1, h2]
  omega
theorem shortL_len3 (n : Nat) (h : n ≤ 65536) : (shortL n).length ≤ 3 := by
  unfold shortL
  rw [shortF]
  split
  · simp
  · rw [shortF]
    split
    · simp
    · rw [shortF_small _ _ (by omega)]
      simp
theorem lays_of {w : World} {g2 n cn : Nat} {An C : Option Addr} {capC g : Nat} {s : List UInt8} (hg : w.heap[g2]? = some (.cells #[.slice An 8 cn, .slice C n capC] 30 (0, 0))) (hn : n = s.length) (h1 : Bs w w.heap.size An (beb 8 g)) (h0 : An = none → 8 = 0) (h2 : Bs w w.heap.size C s) (h3 : C = none → s = []) : Ls w w.heap.size (some ⟨g2, 0, none⟩) [beb 8 g, s] := fun i hi => by
  obtain rfl | rfl : i = 0 ∨ i = 1 := by simp at hi; omega
  · refine ⟨g2, 0, rfl, lt_blk hg, An, cn, ?_, h1, fun h => by have := h0 h; omega⟩
    rw [cell_blk hg]
    simp [beb_len]
  · refine ⟨g2, 0, rfl, lt_blk hg, C, capC, ?_, h2, h3⟩
    rw [cell_blk hg, hn]
    simp
set_option maxRecDepth 100000 in
set_option maxHeartbeats 4000000 in
theorem laid_at (g : Nat) (hg : g < 100000) (s : List UInt8) (n : Nat) (hn : n = s.length) (hn2 : n ≤ 66000) (C : Option Addr) (capC : Nat) (w : World) (hC : Bs w w.heap.size C s) (hC0 : C = none → s = []) :
    Calls Tryz.prog 37 #[.int .i64 g, .slice C n capC] w fun e w' => ∃ A c, e = .returned (.tuple #[.slice A (layLen n) c, .bool (decide (layLen n ≤ 65536))]) ∧ Bs w' w'.heap.size A (layL g s) ∧ (A = none → layL g s = []) ∧ layLen n ≤ c ∧ Below w.heap.size w w' := by
  have HC := Lib.hid hC; have HC0 := Lib.hid hC0; have HN := Lib.hid hn
  have HBY := Lib.hid (bytes_any g 8 (by decide) (by decide) (Nat.lt_of_lt_of_le hg (by decide)) w)
  rw [show ((8 : Nat) : Int) = 8 from rfl] at HBY
  clear hC hC0 hn
  go_enter Tryz.func37, Tryz.ntmps37
  go_wp2_with fail
  with_reducible refine HBY.out.mono ?_
  rintro e w1 ⟨v, rfl, ho, hb⟩
  obtain ⟨An, cn, rfl, hrn, hn0, _⟩ := own_rd ho
  have HRN := Lib.hid hrn.bs; have HN0 := Lib.hid hn0; have HB := Lib.hid hb
  have HC1 := Lib.hid ((HC.out.below hb).more hb.size)
  clear ho hrn hn0 hb HBY
  have HLS := Lib.hid (lays_of (w := w1.alloc (.cells #[.slice An 8 cn, .slice C n capC] 30)) (g := g) (heap_alloc_new _ _) HN.out ((HRN.out.below (below_alloc _ _)).more (below_alloc _ _).size) HN0.out ((HC1.out.below (below_alloc _ _)).more (below_alloc _ _).size) HC0.out)
  have HFL := Lib.hid (fields_at [beb 8 g, s] 2 rfl (by decide) (fun x hx => by
    simp only [List.mem_cons, List.not_mem_nil, or_false] at hx
    rcases hx with rfl | rfl
    · rw [beb_len]; decide
    · rw [← HN.out]; exact hn2) (some ⟨w1.heap.size, 0, none⟩) 2 _ _ HLS.out (Nat.le_refl _))
  have HB1 := Lib.hid (HB.out.trans ((below_alloc w1 (.cells #[.slice An 8 cn, .slice C n capC] 30)).mono HB.out.size))
  go_wp2_with fail
  with_reducible refine HFL.out.mono ?_
  rintro e w2 ⟨v2, rfl, ho, hb⟩
  have hlen : (outK [beb 8 g, s] 2).length = layLen n := by rw [HN.out]; exact layL_len g s
  rw [hlen] at ho
  obtain ⟨A2, c2, rfl, hr2, h02, hc2⟩ := own_rd ho
  have HR2 := Lib.hid hr2.bs; have H02 := Lib.hid h02; have HC2 := Lib.hid hc2
  have HB2 := Lib.hid (HB1.out.trans (hb.mono HB1.out.size))
  have HLN := Lib.hid hlen
  have hll : layLen n ≤ 70000 := by have := (shortL_len n).2; unfold layLen; omega
  clear ho hr2 h02 hc2 hb hlen HFL HLS
  obtain ⟨m, hm⟩ : ∃ m, m = layLen n := ⟨_, rfl⟩
  rw [← hm] at hll HLN H02 HC2 ⊢
  have HMM := Lib.hid hm
  clear hm
  go_wp2_with fail
  go_ret2
  refine ⟨A2, c2, by rw [← HMM.out]; exact ret_pairB (decide_eq_decide.2 (by omega)), HR2.out, fun h => List.eq_nil_of_length_eq_zero (HLN.out.trans (H02.out h)), by rw [← HMM.out]; exact HC2.out, HB2.out⟩
end Go.Proofs.YtegekaocbalndaaGreatDoor
end

section
set_option linter.unusedSimpArgs false
set_option linter.unusedVariables false
namespace Go.Proofs.YtegekaocbalndaaGreatDoor
open Go.RowKit

def smallB (n R : Nat) : Bool := decide (layLen n ≤ 65536) && decide (layLen n + 12 ≤ R / 3)
theorem zeros_bs (w : World) (n : Nat) : Bs (w.alloc (.cells (Array.replicate n (.int .u8 0)) 5)) (w.alloc (.cells (Array.replicate n (.int .u8 0)) 5)).heap.size (some ⟨w.heap.size, 0, none⟩) (List.replicate n 0) := fun j hj => by
  rw [List.length_replicate] at hj
  refine ⟨w.heap.size, 0, rfl, by simp, ?_⟩
  rw [cell_blk (heap_alloc_new _ _)]
  simp [hj, List.getD_eq_getElem?_getD]
set_option maxRecDepth 100000 in
set_option maxHeartbeats 4000000 in
theorem ssmall_at (n : Nat) (hn : n ≤ 65536) (R : Nat) (hR : R ≤ 67108864) (w : World) :
    Calls Tryz.prog 35 #[.int .i64 n, .int .i64 R] w fun e w' => e = .returned (.bool (smallB n R)) ∧ Below w.heap.size w w' := by
  have hmk := fun W => run_make_el E5 n n (by simp) (by omega) (by omega) W
  have HB0 := Lib.hid (below_alloc w (.cells (Array.replicate n (.int .u8 0)) 5))
  have HL := Lib.hid (laid_at 1 (by decide) (List.replicate n 0) n (by simp) (by omega) (some ⟨w.heap.size, 0, none⟩) n _ (zeros_bs w n) (fun h => by cases h))
  rw [show ((1 : Nat) : Int) = 1 from rfl] at HL
  have HSB : Hid (smallB n R = (decide (layLen n ≤ 65536) && decide (layLen n + 12 ≤ R / 3))) := Lib.hid rfl
  go_enter Tryz.func35, Tryz.ntmps35
  go_wp2_with fail
  with_reducible refine HL.out.mono ?_
  rintro e w1 ⟨A, c, rfl, hbs, _, _, hb⟩
  have HB1 := Lib.hid (HB0.out.trans (hb.mono HB0.out.size))
  clear hbs hb HL hmk HB0
  generalize layLen n = m at *
  by_cases hm : m ≤ 65536
  · have HE : Hid (smallB n R = decide (m + 12 ≤ R / 3)) := Lib.hid (by rw [HSB.out, decide_eq_true hm, Bool.true_and])
    rw [decide_eq_true hm]
    have HFS := Lib.hid (fsize_at m hm w1)
    go_wp2_with fail
    with_reducible refine HFS.out.mono ?_
    rintro e w2 ⟨rfl, rfl⟩
    go_wp2_with fail
    go_ret
    exact ⟨ret_bool (by rw [HE.out]; exact decide_eq_decide.2 (by omega)), HB1.out⟩
  · have HE : Hid (smallB n R = false) := Lib.hid (by rw [HSB.out, decide_eq_false hm, Bool.false_and])
    rw [decide_eq_false hm]
    go_wp2_with fail
    go_ret
    exact ⟨ret_bool (by rw [HE.out]), HB1.out⟩
end Go.Proofs.YtegekaocbalndaaGreatDoor
end

section
set_option linter.unusedSimpArgs false
set_option linter.unusedVariables false
namespace Go.Proofs.YtegekaocbalndaaGreatDoor
open Go.RowKit

theorem sh_cases (n : Nat) (h : n ≤ 65536) : (n ≤ 127 ∧ shortL n = [UInt8.ofNat n]) ∨ (127 < n ∧ n ≤ 16383 ∧ shortL n = [UInt8.ofNat (n % 128 + 128), UInt8.ofNat (n / 128)]) ∨ (16383 < n ∧ shortL n = [UInt8.ofNat (n % 128 + 128), UInt8.ofNat (n / 128 % 128 + 128), UInt8.ofNat (n / 128 / 128)]) := by
  unfold shortL
  rw [shortF]
  split
  · rename_i h1
    exact .inl ⟨h1, rfl⟩
  · right
    rw [shortF]
    split
    · exact .inl ⟨by omega, by omega, rfl⟩
    · rw [shortF_small _ _ (by omega)]
      exact .inr ⟨by omega, rfl⟩
theorem and_127 : ∀ a : Nat, a < 256 → bits .and .u8 (a : Int) 127 = ((a % 128 : Nat) : Int) := by decide +kernel
theorem u64_orS (a c k : Nat) (ha : a < 2 ^ k) (hc : c * 2 ^ k + a < 18446744073709551616) : bits .or .u64 (a : Int) ((c * 2 ^ k : Nat) : Int) = ((a + c * 2 ^ k : Nat) : Int) := by
  show IntKind.u64.wrap ((BitVec.ofInt 64 (a : Int) ||| BitVec.ofInt 64 ((c * 2 ^ k : Nat) : Int)).toNat : Int) = _
  rw [BitVec.ofInt_natCast, BitVec.ofInt_natCast, BitVec.toNat_or, BitVec.toNat_ofNat, BitVec.toNat_ofNat, Nat.mod_eq_of_lt (show a < 2 ^ 64 by omega), Nat.mod_eq_of_lt (show c * 2 ^ k < 2 ^ 64 by omega)]
  have e2 : a ||| c * 2 ^ k = a + c * 2 ^ k := by
    have := Nat.shiftLeft_add_eq_or_of_lt (b := a) (i := k) ha c
    rw [Nat.shiftLeft_eq] at this
    rw [Nat.or_comm, Nat.add_comm]
    exact this.symm
  rw [e2]
  have e3 : a + c * 2 ^ k < 18446744073709551616 := by omega
  generalize a + c * 2 ^ k = z at *
  simp [IntKind.wrap, IntKind.bits, IntKind.signed]; omega
theorem of_nat_val (x : Nat) (h : x < 256) : ((UInt8.ofNat x).toNat : Int) = (x : Int) := by
  rw [UInt8.toNat_ofNat']
  omega
theorem results_tmp3 {fn : Func} {t u v : Tmp} (h : fn.results = #[.tmp t, .tmp u, .tmp v]) (tmps : Array Value) (P : Program) (w : World) :
    (results fn tmps).run P w = .ok (.tuple #[tmps.getD t undef, tmps.getD u undef, tmps.getD v undef]) w := by
  simp [results, h]
/-- what a byte of it is. -/
theorem sh_byte {n : Nat} {l r : List UInt8} (hl : l = shortL n ++ r) {i : Nat} {x : Nat} (hx : (shortL n)[i]? = some (UInt8.ofNat x)) (h : x < 256) : i < l.length ∧ ((l.getD i 0).toNat : Int) = (x : Int) := by
  have hi := (List.getElem?_eq_some_iff.1 hx).1
  refine ⟨by rw [hl, List.length_append]; omega, ?_⟩
  rw [hl, List.getD_eq_getElem?_getD, List.getElem?_append_left hi, hx]
  exact of_nat_val x h
set_option maxRecDepth 100000 in
set_option maxHeartbeats 4000000 in
theorem readshort_at (n : Nat) (hn : n ≤ 65536) (l r : List UInt8) (hl : l = shortL n ++ r) (L : Nat) (hL : L = l.length) (hL2 : L ≤ 10000000) (A : Option Addr) (cap B : Nat) (w : World) (hA : Bs w B A l) :
    Calls Tryz.prog 80 #[.slice A L cap] w fun e w' => e = .returned (.tuple #[.int .u64 n, .int .i64 (shortL n).length, .int .i64 0]) ∧ w' = w := by
  have HA := Lib.hid hA
  have HX : Hid (∀ i x, (shortL n)[i]? = some (UInt8.ofNat x) → x < 256 → i < L ∧ ∃ b off, A = some ⟨b, off, none⟩ ∧ w.cell? ⟨b, off + i, none⟩ = some (.int .u8 (x : Int))) := Lib.hid fun i x h1 h2 => by
    obtain ⟨h3, h4⟩ := sh_byte hl h1 h2
    obtain ⟨b, off, e, _, hc⟩ := hA i h3
    exact ⟨by rw [hL]; exact h3, b, off, e, hc.trans (by rw [h4])⟩
  clear hA hl hL HA
  go_enter Tryz.func80, Tryz.ntmps80
  rcases sh_cases n hn with ⟨h1, h2⟩ | ⟨h1, h1', h2⟩ | ⟨h1, h2⟩
  · obtain ⟨k0, b, off, rfl, c0⟩ := HX.out 0 n (by rw [h2]; rfl) (by omega)
    rw [h2]
    have a0 := and_127 n (by omega)
    rw [Nat.mod_eq_of_lt (by omega)] at a0
    have o0 : bits .or .u64 0 (n : Int) = (n : Int) := by simpa using u64_orS 0 n 0 (by decide) (by omega)
    rw [Nat.add_zero] at c0
    clear HX h2
    go_wp2_with fail
    go_loopw [5, 10] (fun av iv wr => av = .int .u64 0 ∧ iv = .int .i64 0 ∧ wr = w) (fun _ _ _ => 0)
    case atStart => exact ⟨rfl, rfl, rfl⟩
    case round =>
      obtain ⟨rfl, rfl, rfl⟩ := hrel
      rcases Nat.eq_zero_or_pos n with rfl | hpos
      · go_wp2_with fail
        (try simp only [Exit.inBlock, Exit.then])
        refine bodyPost_ret (results_tmp3 rfl _ _ _) rfl ?_
        exact ⟨rfl, rfl⟩
      · have z0 : ((n : Int) == 0) = false := by rw [beq_eq_false_iff_ne]; omega
        go_wp2_with fail
        (try simp only [Exit.inBlock, Exit.then])
        refine bodyPost_ret (results_tmp3 rfl _ _ _) rfl ?_
        exact ⟨rfl, rfl⟩
  · obtain ⟨k0, b, off, e0, c0⟩ := HX.out 0 (n % 128 + 128) (by rw [h2]; rfl) (by omega)
    obtain ⟨k1, b', off', e1, c1⟩ := HX.out 1 (n / 128) (by rw [h2]; rfl) (by omega)
    subst e0
    injection e1 with e1; injection e1 with e2 e3; subst e2 e3
    rw [h2]
    have hnp : n = n % 128 + n / 128 * 128 := by omega
    have hp : n % 128 < 128 := by omega
    have hd : 1 ≤ n / 128 ∧ n / 128 < 128 := by omega
    clear HX h2 h1 h1' hn
    generalize n % 128 = p at *
    generalize n / 128 = d at *
    have a0 := and_127 (p + 128) (by omega)
    rw [show (p + 128) % 128 = p by omega, show ((p + 128 : Nat) : Int) = (p : Int) + 128 by omega] at a0
    have a1 := and_127 d (by omega)
    rw [Nat.mod_eq_of_lt hd.2] at a1
    have o0 : bits .or .u64 0 (p : Int) = (p : Int) := by simpa using u64_orS 0 p 0 (by decide) (by omega)
    have o1 : bits .or .u64 (p : Int) ((d : Int) * 128) = (n : Int) := by
      have := u64_orS p d 7 (by omega) (by omega)
      rw [← show n = p + d * 2 ^ 7 by omega] at this
      simpa using this
    have z1 : ((d : Int) == 0) = false := by rw [beq_eq_false_iff_ne]; omega
    rw [Nat.add_zero] at c0
    rw [show ((p + 128 : Nat) : Int) = (p : Int) + 128 by omega] at c0
    obtain ⟨hd1, hd2⟩ := hd
    have HNP := Lib.hid hnp
    clear hnp
    go_wp2_with fail
    go_loopw [5, 10] (fun av iv wr => wr = w ∧ ((av = .int .u64 0 ∧ iv = .int .i64 0) ∨ (av = .int .u64 p ∧ iv = .int .i64 1))) (fun _ iv _ => 2 - (intOf iv).toNat)
    case atStart => exact ⟨rfl, .inl ⟨rfl, rfl⟩⟩
    case round =>
      obtain ⟨rfl, ⟨rfl, rfl⟩ | ⟨rfl, rfl⟩⟩ := hrel
      · go_wp2_with fail
        go_roundw
        case rel => exact ⟨trivial, .inr ⟨rfl, rfl⟩⟩
        case measure => simp [intOf]
      · go_wp2_with fail
        (try simp only [Exit.inBlock, Exit.then])
        refine bodyPost_ret (results_tmp3 rfl _ _ _) rfl ?_
        exact ⟨rfl, rfl⟩
  · obtain ⟨k0, b, off, e0, c0⟩ := HX.out 0 (n % 128 + 128) (by rw [h2]; rfl) (by omega)
    obtain ⟨k1, b', off', e1, c1⟩ := HX.out 1 (n / 128 % 128 + 128) (by rw [h2]; rfl) (by omega)
    obtain ⟨k2, b2, off2, e4, c2⟩ := HX.out 2 (n / 128 / 128) (by rw [h2]; rfl) (by omega)
    subst e0
    injection e1 with e1; injection e1 with e2 e3; subst e2 e3
    injection e4 with e4; injection e4 with e2 e3; subst e2 e3
    rw [h2]
    have hnp : n = n % 128 + n / 128 % 128 * 128 + n / 128 / 128 * 16384 := by omega
    have hp : n % 128 < 128 := by omega
    have hq : n / 128 % 128 < 128 := by omega
    have hd : 1 ≤ n / 128 / 128 ∧ n / 128 / 128 < 128 := by omega
    clear HX h2 h1 hn
    generalize n % 128 = p at *
    generalize n / 128 / 128 = d at *
    generalize n / 128 % 128 = q at *
    have a0 := and_127 (p + 128) (by omega)
    rw [show (p + 128) % 128 = p by omega, show ((p + 128 : Nat) : Int) = (p : Int) + 128 by omega] at a0
    have a2 := and_127 (q + 128) (by omega)
    rw [show (q + 128) % 128 = q by omega, show ((q + 128 : Nat) : Int) = (q : Int) + 128 by omega] at a2
    have a1 := and_127 d (by omega)
    rw [Nat.mod_eq_of_lt hd.2] at a1
    have o0 : bits .or .u64 0 (p : Int) = (p : Int) := by simpa using u64_orS 0 p 0 (by decide) (by omega)
    have o2 : bits .or .u64 (p : Int) ((q : Int) * 128) = ((p + q * 128 : Nat) : Int) := by
      have := u64_orS p q 7 (by omega) (by omega)
      simpa using this
    obtain ⟨a, ha⟩ : ∃ a, a = p + q * 128 := ⟨_, rfl⟩
    rw [← ha] at o2
    have o1 : bits .or .u64 (a : Int) ((d : Int) * 16384) = (n : Int) := by
      have := u64_orS a d 14 (by omega) (by omega)
      rw [← show n = a + d * 2 ^ 14 by omega] at this
      simpa using this
    have z1 : ((d : Int) == 0) = false := by rw [beq_eq_false_iff_ne]; omega
    rw [Nat.add_zero] at c0
    rw [show ((p + 128 : Nat) : Int) = (p : Int) + 128 by omega] at c0
    rw [show ((q + 128 : Nat) : Int) = (q : Int) + 128 by omega] at c1
    obtain ⟨hd1, hd2⟩ := hd
    have HNP := Lib.hid hnp; have HAE := Lib.hid ha
    clear hnp ha
    go_wp2_with fail
    go_loopw [5, 10] (fun av iv wr => wr = w ∧ ((av = .int .u64 0 ∧ iv = .int .i64 0) ∨ (av = .int .u64 p ∧ iv = .int .i64 1) ∨ (av = .int .u64 a ∧ iv = .int .i64 2))) (fun _ iv _ => 3 - (intOf iv).toNat)
    case atStart => exact ⟨rfl, .inl ⟨rfl, rfl⟩⟩
    case round =>
      obtain ⟨rfl, ⟨rfl, rfl⟩ | ⟨rfl, rfl⟩ | ⟨rfl, rfl⟩⟩ := hrel
      · go_wp2_with fail
        go_roundw
        case rel => exact ⟨trivial, .inr (.inl ⟨rfl, rfl⟩)⟩
        case measure => simp [intOf]
      · go_wp2_with fail
        go_roundw
        case rel => exact ⟨trivial, .inr (.inr ⟨rfl, rfl⟩)⟩
        case measure => simp [intOf]
      · go_wp2_with fail
        (try simp only [Exit.inBlock, Exit.then])
        refine bodyPost_ret (results_tmp3 rfl _ _ _) rfl ?_
        exact ⟨rfl, rfl⟩
end Go.Proofs.YtegekaocbalndaaGreatDoor
end

section
set_option linter.unusedSimpArgs false
set_option linter.unusedVariables false
namespace Go.Proofs.YtegekaocbalndaaGreatDoor
open Go.RowKit

theorem slice_eq {A : Option Addr} {a b c : Nat} (h : a = b) : Value.slice A a c = .slice A b c := by rw [h]
def restF (ls : List (List UInt8)) (k : Nat) : List UInt8 := (ls.drop k).flatMap fieldB
theorem restF_succ {ls : List (List UInt8)} {k : Nat} (h : k < ls.length) : restF ls k = shortL (ls.getD k []).length ++ (ls.getD k [] ++ restF ls (k + 1)) := by
  unfold restF
  rw [List.drop_eq_getElem_cons h, List.getD_eq_getElem?_getD, List.getElem?_eq_getElem h]
  simp only [List.flatMap_cons, fieldB, List.append_assoc, Option.getD_some]
theorem outK_rest (ls : List (List UInt8)) : outK ls ls.length = shortL ls.length ++ restF ls 0 := by
  unfold outK restF
  rw [List.take_length, List.drop_zero]
theorem restF_end (ls : List (List UInt8)) : restF ls ls.length = [] := by simp [restF]
theorem take_getD {ls : List (List UInt8)} {k : Nat} (h : k < ls.length) : ls.take (k + 1) = ls.take k ++ [ls.getD k []] := by
  rw [List.take_succ_eq_append_getElem h, List.getD_eq_getElem?_getD, List.getElem?_eq_getElem h, Option.getD_some]
def RFieldsP (ls : List (List UInt8)) (K : Nat) (w : World) (e : Ending) (w' : World) : Prop := ∃ v vs, e = .returned (.tuple #[v, .int .i64 0]) ∧ w'.ownsRow w.heap.size 30 1 v K vs ∧ Rows8 w' w.heap.size vs ls ∧ Below w.heap.size w w'
set_option maxRecDepth 100000 in
set_option maxHeartbeats 4000000 in
theorem readfields_at (ls : List (List UInt8)) (K : Nat) (hK : K = ls.length) (hK1 : 1 ≤ K) (hK2 : K ≤ 10) (hs : ∀ x ∈ ls, x.length ≤ 65536) (l : List UInt8) (hl : l = outK ls K) (L : Nat) (hL : L = l.length) (A : Option Addr) (cap : Nat) (hcap : L ≤ cap) (w : World) (hA : Bs w w.heap.size A l) :
    Calls Tryz.prog 56 #[.slice A L cap] w (RFieldsP ls K w) := by
  have hL2 : L ≤ 1000000 := by
    have := outK_le (ls := ls) (fun x hx => by have := hs x hx; omega) K (by omega)
    rw [← hl, ← hL] at this
    omega
  have HK := Lib.hid hK
  have HSZ : Hid (∀ k, k < K → (ls.getD k []).length ≤ 65536) := Lib.hid fun k hk => by
    rw [List.getD_eq_getElem?_getD, List.getElem?_eq_getElem (by omega), Option.getD_some]
    exact hs _ (List.getElem_mem _)
  have hl2 : l = shortL K ++ restF ls 0 := by rw [hl, hK, outK_rest, ← hK]
  have HRS := Lib.hid (readshort_at K (by omega) l (restF ls 0) hl2 L hL (by omega) A cap w.heap.size w hA)
  obtain ⟨b, off, rfl, hb0, _⟩ := hA 0 (by rw [hl2, List.length_append]; have := (shortL_len K).1; omega)
  obtain ⟨s0, hs0⟩ : ∃ s, s = (shortL K).length := ⟨_, rfl⟩
  have hs1 := (shortL_len K).2
  rw [← hs0] at HRS hs1
  have hR0 : L = s0 + (restF ls 0).length := by rw [hL, hl2, List.length_append, hs0]
  have HA0 : Hid (Bs w w.heap.size (some ⟨b, off + s0, none⟩) (restF ls 0)) := Lib.hid (by
    have := hA.drop' s0
    rw [hl2, List.drop_left' hs0.symm] at this
    exact this)
  obtain ⟨R0, hR⟩ : ∃ R, R = (restF ls 0).length := ⟨_, rfl⟩
  have HR0 := Lib.hid hR
  rw [← hR] at hR0
  have h41 : (0 : Int) ≤ s0 := by omega
  have h42 : (s0 : Int) ≤ L := by omega
  have hne : ¬ cap = s0 := by
    have := restF_succ (ls := ls) (k := 0) (by omega)
    have h1 := congrArg List.length this
    rw [List.length_append, ← hR] at h1
    have := (shortL_len (ls.getD 0 []).length).1
    omega
  have HLR := Lib.hid hR0
  clear hK hs hl hL hA hl2 hs0 hR hR0
  go_enter Tryz.func56, Tryz.ntmps56
  go_wp2_with fail
  with_reducible refine HRS.out.mono ?_
  rintro e w1 ⟨rfl, hw1⟩
  obtain rfl := hw1.symm
  clear HRS
  go_wp2_with fail
  go_loopw [0, 7, 32] (fun bv ov cv wr => ∃ (k R cb : Nat) (Ab : Option Addr) (vs : List Value), k ≤ K ∧ cv = .int .u64 (k : Nat) ∧ bv = .slice Ab R cb ∧ R = (restF ls k).length ∧ R ≤ cb ∧ R ≤ 1000000 ∧ Bs wr w.heap.size Ab (restF ls k) ∧ wr.ownsRow w.heap.size 30 1 ov k vs ∧ Rows8 wr w.heap.size vs (ls.take k) ∧ Below w.heap.size w wr) (fun _ _ cv _ => K - (intOf cv).toNat)
  case atStart => exact ⟨0, _, _, _, [], by omega, rfl, rfl, by have := HLR.out; have := HR0.out; omega, by omega, by omega, HA0.out, World.ownsRow_nil _ _ _ _, by rw [List.take_zero]; exact Rows8.nil _ _, Below.refl _ _⟩
  case round =>
    obtain ⟨k, R, cb, Ab, vs, hk, rfl, rfl, hR, hRc, hRm, hbs, ho, hr, hb⟩ := hrel
    have HR := Lib.hid hR; have HBS := Lib.hid hbs; have HO := Lib.hid ho; have HRW := Lib.hid hr; have HB := Lib.hid hb
    obtain ⟨A7, c7, rfl, _⟩ := own_rd ho
    clear hR hbs ho hr hb HA0 h41 h42 hne
    by_cases hlt : k < K
    · have hkl : k < ls.length := by rw [← HK.out]; exact hlt
      have hst := restF_succ hkl
      have HTK := Lib.hid (take_getD hkl)
      have hn65 := HSZ.out k hlt
      obtain ⟨x, hx⟩ : ∃ x, x = ls.getD k [] := ⟨_, rfl⟩
      rw [← hx] at hst HTK hn65
      obtain ⟨n, hn⟩ : ∃ n, n = x.length := ⟨_, rfl⟩
      rw [← hn] at hst hn65
      have HN := Lib.hid hn; have HST := Lib.hid hst
      obtain ⟨s, hsl⟩ : ∃ s, s = (shortL n).length := ⟨_, rfl⟩
      have hs1 := (shortL_len n).1; have hs2 := (shortL_len n).2
      rw [← hsl] at hs1 hs2
      obtain ⟨R', hR'⟩ : ∃ R', R' = (restF ls (k + 1)).length := ⟨_, rfl⟩
      have hRR : R = s + n + R' := by rw [HR.out, hst, List.length_append, List.length_append, ← hsl, ← hn, ← hR', Nat.add_assoc]
      have HRS := Lib.hid (readshort_at n hn65 (restF ls k) (x ++ restF ls (k + 1)) hst R HR.out (by omega) Ab cb w.heap.size wr HBS.out)
      rw [← hsl] at HRS
      obtain ⟨b, off, rfl, hb0, _⟩ := HBS.out 0 (by rw [← HR.out]; omega)
      have HB1 : Hid (Bs wr w.heap.size (some ⟨b, off + s, none⟩) (x ++ restF ls (k + 1))) := Lib.hid (by
        have := HBS.out.drop' s
        rw [hst, List.drop_left' hsl.symm] at this
        exact this)
      have HB2 : Hid (Bs wr w.heap.size (some ⟨b, off + s + n, none⟩) (restF ls (k + 1))) := Lib.hid (by
        have := HB1.out.drop' n
        rw [List.drop_left' hn.symm] at this
        exact this)
      have HBX : Hid (Bs wr w.heap.size (some ⟨b, off + s, none⟩) x) := Lib.hid fun j hj => by
        have := HB1.out j (by rw [List.length_append]; omega)
        rwa [List.getD_eq_getElem?_getD, List.getElem?_append_left hj, ← List.getD_eq_getElem?_getD] at this
      have HRR := Lib.hid hRR
      have q1 : s + n ≤ R := by omega
      have q2 : (n : Int) ≤ (R : Int) - s := by omega
      clear hst hx hn hsl hRR HBS
      have HRP : Hid (R' = (restF ls (k + 1)).length) := Lib.hid hR'
      by_cases hc1 : cb = s
      · have hn0 : n = 0 := by have := HRR.out; omega
        have hR0 : R' = 0 := by have := HRR.out; omega
        have HX0 : Hid (x = []) := Lib.hid (List.eq_nil_of_length_eq_zero (by rw [← HN.out]; exact hn0))
        have HN0 : Hid (restF ls (k + 1) = []) := Lib.hid (List.eq_nil_of_length_eq_zero (by rw [← hR']; exact hR0))
        have HBX : Hid (Bs wr w.heap.size (some ⟨b, off, none⟩) x) := Lib.hid (by rw [HX0.out]; exact fun j hj => by simp at hj)
        have HBN : Hid (Bs wr w.heap.size (some ⟨b, off, none⟩) (restF ls (k + 1))) := Lib.hid (by rw [HN0.out]; exact fun j hj => by simp at hj)
        clear hR' hR0 HB1 HB2
        subst hn0 hc1
        go_wp2_with fail
        with_reducible refine HRS.out.mono ?_
        rintro e w1 ⟨rfl, hw1⟩
        obtain rfl := hw1.symm
        clear HRS
        have h3 := below_alloc wr (.cells #[] 5)
        have Hv2 := Lib.hid (owns0 wr wr.heap.size 5 (Nat.le_refl _))
        have HO2 := Lib.hid (own_below HO.out h3); have HR2 := Lib.hid (HRW.out.below h3); have H12 := Lib.hid h3
        have HB2 := Lib.hid (HB.out.trans (h3.mono HB.out.size))
        clear h3
        go_wp2_with (at_builtin; refine wpList_append_one0 E46 rfl (.tmp 54) (.tmp 60) rfl w.heap.size (.slice (some ⟨wr.heap.size, 0, none⟩) 0 0) rfl _ k vs rfl HO2.out (by first | rfl | (go_simp; done) | (go_simp; simp; done) | (simp [Act.eval]; done)) (by omega) (by omega) w (Nat.le_refl _) HB2.out ?_; intro v3 w3 h2 h3 h4 h5; clear h5; obtain ⟨A9, c9, rfl, _⟩ := own_rd h2; have H2 := Lib.hid h2; have H3 := Lib.hid h3; have H4 := Lib.hid h4; clear h2 h3 h4)
        have hv3 : Hid ((wr.alloc (.cells #[] 5)).ownsRow w.heap.size 5 1 (.slice (some ⟨wr.heap.size, 0, none⟩) 0 0) x.length (bcells x)) := Lib.hid (by rw [HX0.out]; exact own_base Hv2.out HB.out.size)
        have hnew : Hid (∀ i g, i < (ls.take k).length → (vs.getD i undef).ownBlock = some g → (Value.slice (some ⟨wr.heap.size, 0, none⟩) 0 0).ownBlock ≠ some g) := Lib.hid (fun i g hi hg hg2 => by
          have h1 := World.ownsRow.lt (HRW.out.row i hi) g hg
          have h2 := World.ownsRow.lt Hv2.out g hg2
          omega)
        have hrows := (HR2.out.grown HO2.out (by decide) H4.out).snoc (own_grown hv3.out HO2.out (by decide) H4.out) hnew.out
        go_roundw
        case rel => exact ⟨k + 1, R', _, _, vs ++ [.slice (some ⟨wr.heap.size, 0, none⟩) 0 0], by omega, by go_num, slice_eq (by have := HRR.out; omega), HRP.out, by have := HRR.out; omega, by have := HRR.out; omega, (HBN.out.below (H12.out.mono HB.out.size)).grown H4.out HB2.out.size (fun g hg => (HO2.out.lt g hg).1), H2.out, by rw [HTK.out]; exact hrows, H3.out⟩
        case measure => simp [intOf]; omega
      by_cases hc2 : cb - s = n
      · have hR0 : R' = 0 := by have := HRR.out; omega
        have HN0 : Hid (restF ls (k + 1) = []) := Lib.hid (List.eq_nil_of_length_eq_zero (by rw [← hR']; exact hR0))
        have HBN : Hid (Bs wr w.heap.size (some ⟨b, off + s, none⟩) (restF ls (k + 1))) := Lib.hid (by rw [HN0.out]; exact fun j hj => by simp at hj)
        clear hR' hR0 HB1 HB2
        go_wp2_with fail
        with_reducible refine HRS.out.mono ?_
        rintro e w1 ⟨rfl, hw1⟩
        obtain rfl := hw1.symm
        clear HRS
        go_wp2_with (first
          | (at_builtin; refine wpList_append_src E5 rfl (.tmp 55) (.tmp 58) rfl wr.heap.size _ 0 [] rfl (owns0 wr _ _ (Nat.le_refl _)) wr.heap.size _ (bcells x) n _ rfl (by rw [bcells_length, HN.out]) ((HBX.out.more HB.out.size).rd.alloc0 _) (fun h => by cases h) (bcells_one _) (by omega) (by omega) wr (Nat.le_refl _) (below_alloc _ _) ?_
             intro v2 w2 h2 h3 h4 h5; clear h4 h5
             rw [Nat.zero_add, List.nil_append] at h2
             obtain ⟨A2, c2, rfl, _, _, _⟩ := own_rd h2
             have Hv2 := Lib.hid h2
             have HO2 := Lib.hid (own_below HO.out h3); have HR2 := Lib.hid (HRW.out.below h3); have H12 := Lib.hid h3
             have HB2 := Lib.hid (HB.out.trans (h3.mono HB.out.size)); clear h2 h3)
          | (at_builtin; refine wpList_append_one0 E46 rfl (.tmp 54) (.tmp 60) rfl w.heap.size (.slice A2 n c2) rfl _ k vs rfl HO2.out rfl (by omega) (by omega) w (Nat.le_refl _) HB2.out ?_
             intro v3 w3 h2 h3 h4 h5; clear h5; obtain ⟨A9, c9, rfl, _⟩ := own_rd h2; have H2 := Lib.hid h2; have H3 := Lib.hid h3; have H4 := Lib.hid h4; clear h2 h3 h4))
        have hv3 : Hid (w2.ownsRow w.heap.size 5 1 (.slice A2 n c2) x.length (bcells x)) := Lib.hid (by rw [← HN.out]; exact own_base Hv2.out HB.out.size)
        have hnew : Hid (∀ i g, i < (ls.take k).length → (vs.getD i undef).ownBlock = some g → (Value.slice A2 n c2).ownBlock ≠ some g) := Lib.hid (fun i g hi hg hg2 => by
          have h1 := World.ownsRow.lt (HRW.out.row i hi) g hg
          have h2 := World.ownsRow.lt Hv2.out g hg2
          omega)
        have hrows := (HR2.out.grown HO2.out (by decide) H4.out).snoc (own_grown hv3.out HO2.out (by decide) H4.out) hnew.out
        go_roundw
        case rel => exact ⟨k + 1, R', _, _, vs ++ [.slice A2 n c2], by omega, by go_num, slice_eq (by have := HRR.out; omega), HRP.out, by have := HRR.out; omega, by have := HRR.out; omega, (HBN.out.below (H12.out.mono HB.out.size)).grown H4.out HB2.out.size (fun g hg => (HO2.out.lt g hg).1), H2.out, by rw [HTK.out]; exact hrows, H3.out⟩
        case measure => simp [intOf]; omega
      have HBN := HB2
      clear hR' HB1 HB2
      go_wp2_with fail
      with_reducible refine HRS.out.mono ?_
      rintro e w1 ⟨rfl, hw1⟩
      obtain rfl := hw1.symm
      clear HRS
      go_wp2_with (first
        | (at_builtin; refine wpList_append_src E5 rfl (.tmp 55) (.tmp 58) rfl wr.heap.size _ 0 [] rfl (owns0 wr _ _ (Nat.le_refl _)) wr.heap.size _ (bcells x) n _ rfl (by rw [bcells_length, HN.out]) ((HBX.out.more HB.out.size).rd.alloc0 _) (fun h => by cases h) (bcells_one _) (by omega) (by omega) wr (Nat.le_refl _) (below_alloc _ _) ?_
           intro v2 w2 h2 h3 h4 h5; clear h4 h5
           rw [Nat.zero_add, List.nil_append] at h2
           obtain ⟨A2, c2, rfl, _, _, _⟩ := own_rd h2
           have Hv2 := Lib.hid h2
           have HO2 := Lib.hid (own_below HO.out h3); have HR2 := Lib.hid (HRW.out.below h3); have H12 := Lib.hid h3
           have HB2 := Lib.hid (HB.out.trans (h3.mono HB.out.size)); clear h2 h3)
        | (at_builtin; refine wpList_append_one0 E46 rfl (.tmp 54) (.tmp 60) rfl w.heap.size (.slice A2 n c2) rfl _ k vs rfl HO2.out rfl (by omega) (by omega) w (Nat.le_refl _) HB2.out ?_
           intro v3 w3 h2 h3 h4 h5; clear h5; obtain ⟨A9, c9, rfl, _⟩ := own_rd h2; have H2 := Lib.hid h2; have H3 := Lib.hid h3; have H4 := Lib.hid h4; clear h2 h3 h4))
      have hv3 : Hid (w2.ownsRow w.heap.size 5 1 (.slice A2 n c2) x.length (bcells x)) := Lib.hid (by rw [← HN.out]; exact own_base Hv2.out HB.out.size)
      have hnew : Hid (∀ i g, i < (ls.take k).length → (vs.getD i undef).ownBlock = some g → (Value.slice A2 n c2).ownBlock ≠ some g) := Lib.hid (fun i g hi hg hg2 => by
        have h1 := World.ownsRow.lt (HRW.out.row i hi) g hg
        have h2 := World.ownsRow.lt Hv2.out g hg2
        omega)
      have hrows := (HR2.out.grown HO2.out (by decide) H4.out).snoc (own_grown hv3.out HO2.out (by decide) H4.out) hnew.out
      go_roundw
      case rel => exact ⟨k + 1, R', _, _, vs ++ [.slice A2 n c2], by omega, by go_num, slice_eq (by have := HRR.out; omega), HRP.out, by have := HRR.out; omega, by have := HRR.out; omega, (HBN.out.below (H12.out.mono HB.out.size)).grown H4.out HB2.out.size (fun g hg => (HO2.out.lt g hg).1), H2.out, by rw [HTK.out]; exact hrows, H3.out⟩
      case measure => simp [intOf]; omega
    · obtain rfl : k = K := by omega
      have HR0' : Hid (R = 0) := Lib.hid (by rw [HR.out, HK.out, restF_end]; rfl)
      obtain rfl := HR0'.out
      have HTK : Hid (ls.take k = ls) := Lib.hid (by rw [HK.out, List.take_length])
      rw [HTK.out] at HRW
      go_wp2_with fail
      go_ret2
      exact ⟨_, vs, rfl, HO.out, HRW.out, HB.out⟩
end Go.Proofs.YtegekaocbalndaaGreatDoor
end

section
set_option linter.unusedSimpArgs false
set_option linter.unusedVariables false
namespace Go.Proofs.YtegekaocbalndaaGreatDoor
open Go.RowKit

theorem one_frame (r : List UInt8) (h : r.length ≤ 65536) : oneL (frameL r) = some r := by
  have h1 := next_frame r [] h
  rw [List.append_nil] at h1
  unfold oneL
  rw [h1, if_pos ⟨rfl, (frame_length r).symm⟩]
theorem small_len {n R : Nat} (h : smallB n R = true) : layLen n ≤ 65536 ∧ layLen n + 12 ≤ R / 3 := by
  unfold smallB at h
  rw [Bool.and_eq_true, decide_eq_true_eq, decide_eq_true_eq] at h
  exact h
/-- what a snapshot's file has. -/
def snapB (g : Nat) (s : List UInt8) : List UInt8 := frameL (layL g s)
theorem snapB_len (g : Nat) (s : List UInt8) : (snapB g s).length = layLen s.length + 12 := by unfold snapB; rw [frame_length, layL_len]
set_option maxRecDepth 100000 in
set_option maxHeartbeats 4000000 in
theorem sread_at (g : Nat) (hg1 : 1 ≤ g) (hg2 : g ≤ 100000) (s : List UInt8) (R : Nat) (hR : R ≤ 67108864) (hsm : smallB s.length R = true) (n : Nat) (hn : n = (snapB g s).length) (C : Option Addr) (capC : Nat) (hcap : n ≤ capC) (w : World) (hC : Bs w w.heap.size C (snapB g s)) :
    Calls Tryz.prog 27 #[.slice C n capC, .int .i64 R] w fun e w' => ∃ A c, e = .returned (.tuple #[.int .i64 g, .slice A s.length c, .bool true]) ∧ Bs w' w'.heap.size A s ∧ (A = none → s = []) ∧ Below w.heap.size w w' := by
  obtain ⟨hl1, hl2⟩ := small_len hsm
  have hsl : s.length ≤ 65536 := by unfold layLen at hl1; omega
  have hlay := layL_len g s
  have H1 := one_any (snapB g s) (by rw [snapB_len]; omega) C capC w hC (by rw [← hn]; exact hcap)
  rw [← hn] at H1
  have H1 := Lib.hid H1
  have HON : Hid (oneL (snapB g s) = some (layL g s)) := Lib.hid (one_frame _ (by rw [hlay]; exact hl1))
  obtain ⟨L, hL⟩ : ∃ L, L = (layL g s).length := ⟨_, rfl⟩
  have HL := Lib.hid hL
  have hLm : L ≤ 65536 := by rw [hL, hlay]; exact hl1
  obtain ⟨k, hk⟩ : ∃ k, k = s.length := ⟨_, rfl⟩
  have HK := Lib.hid hk
  rw [← hk] at hsm hsl
  have HSM := Lib.hid hsm
  clear hl1 hl2 hlay hn hC hL hsm
  go_enter Tryz.func27, Tryz.ntmps27
  go_wp2_with fail
  with_reducible refine H1.out.mono ?_
  rintro e w1 ⟨hb1, ⟨h, _⟩ | ⟨r, v, h, rfl, ho⟩⟩
  · rw [HON.out] at h; cases h
  rw [HON.out] at h
  injection h with h
  subst h
  rw [← HL.out] at ho
  obtain ⟨A1, c1, rfl, hr1, _, hc1⟩ := own_rd ho
  have HB1 := Lib.hid hb1
  have HRF := Lib.hid (readfields_at [beb 8 g, s] 2 rfl (by decide) (by decide) (fun x hx => by
    simp only [List.mem_cons, List.not_mem_nil, or_false] at hx
    rcases hx with rfl | rfl
    · rw [beb_len]; decide
    · rw [← HK.out]; exact hsl) (layL g s) rfl L HL.out A1 c1 hc1 w1 hr1.bs)
  clear hb1 ho hr1 hc1 H1
  go_wp2_with fail
  with_reducible refine HRF.out.mono ?_
  rintro e w2 ⟨v2, vs, rfl, ho2, hrow, hb2⟩
  obtain ⟨A2, c2, rfl, hls, _, _⟩ := Ls.rows ho2 hrow rfl
  have HB2 := Lib.hid (HB1.out.trans (hb2.mono HB1.out.size))
  obtain ⟨b, off, rfl, hb0, Ai, ci, hx0, hbi, _⟩ := hls 0 (by simp)
  obtain ⟨_, _, e, _, Aj, cj, hx1, hbj, hz1⟩ := hls 1 (by simp)
  injection e with e; injection e with e1 e2; subst e1 e2
  have hlen8 : ([beb 8 g, s].getD 0 []).length = 8 := by show (beb 8 g).length = 8; exact beb_len 8 g
  have hlenk : ([beb 8 g, s].getD 1 []).length = k := by show s.length = k; exact hk.symm
  rw [hlen8] at hx0
  rw [hlenk] at hx1
  have HBJ : Hid (Bs w2 w2.heap.size Aj s) := Lib.hid hbj
  have HZ1 : Hid (Aj = none → s = []) := Lib.hid hz1
  have HNM := number_any (beb 8 g) (by rw [beb_len]; decide) (by rw [beb_len]; decide) Ai ci w2.heap.size w2 hbi
  rw [beb_len, num_beb 8 g (Nat.lt_of_le_of_lt hg2 (by decide))] at HNM
  have HNM := Lib.hid HNM
  have HX0 := Lib.hid hx0; have HX1 := Lib.hid hx1; have HBO := Lib.hid hb0
  rw [Nat.add_zero] at hx0
  clear hb2 ho2 hrow hls hbi hbj hz1 HRF hlen8 hlenk hk
  rw [show [beb 8 g, s].length = 2 from rfl]
  go_wp2_with fail
  with_reducible refine HNM.out.mono ?_
  rintro e w3 ⟨rfl, hw3⟩
  obtain rfl := hw3
  have HSS := Lib.hid (ssmall_at k hsl R hR w2)
  rw [HSM.out] at HSS
  clear HNM hx0
  have d1 : ¬ (g : Int) < 1 := by omega
  have d2 : ¬ (1099511627776 : Int) < (g : Int) := by omega
  have HG1 := Lib.hid hg1; have HG2 := Lib.hid hg2
  clear hg1 hg2
  go_wp2_with fail
  with_reducible refine HSS.out.mono ?_
  rintro e w4 ⟨rfl, hb4⟩
  have HB4 := Lib.hid (HB2.out.trans (hb4.mono HB2.out.size))
  have HBJ4 := Lib.hid ((HBJ.out.below hb4).more hb4.size)
  have hy1 := (hb4.cell (p := ⟨b, off + 1, none⟩) HBO.out).trans HX1.out
  have hwr : IntKind.i64.wrap (g : Int) = (g : Int) := wi64 _ (by have := HG1.out; omega) (by have := HG2.out; omega)
  have T : Hid (∀ W, Below w4.heap.size w4 W → W.cell? ⟨b, off + 1, none⟩ = some (.slice Aj k cj)) := Lib.hid fun W hW => (hW.cell (p := ⟨b, off + 1, none⟩) (World.block_lt_of_cell? _ _ hy1)).trans hy1
  clear hb4 HSS hx1 hy1
  go_upto_region 10 with (fail)
  apply wp_region_relH (H := []) 8 [(Sum.inl _ : TT), (Sum.inl _ : TT), (Sum.inl _ : TT), (Sum.inl _ : TT), (Sum.inl _ : TT), (Sum.inl _ : TT), (Sum.inl _ : TT), (Sum.inl _ : TT)] (by kernel_rfl) (by kernel_rfl) (fun _ _ _ _ _ h => h) rfl
  simp only [List.take_succ_cons, List.take_zero, List.drop_succ_cons, List.drop_zero]
  iterate 8 (apply rel_isS; (intro W hW hf; have hx1 := T.out W hW; go_simp; first | exact ⟨StayS.refl _ _, rfl⟩ | rfl); simp only [Act.put, List.setIfInBounds_toArray, List.set_cons_succ, List.set_cons_zero])
  refine rel_endS ?_
  intro W hW hf
  try simp only [Act.put, List.setIfInBounds_toArray, List.set_cons_succ, List.set_cons_zero]
  refine wpList_nil ?_
  have HBW := Lib.hid (HB4.out.trans (hW.mono HB4.out.size))
  have HBJW := Lib.hid ((HBJ4.out.below hW).more hW.size)
  clear hW hf
  go_wp2_with fail
  go_ret3
  exact ⟨Aj, cj, by rw [← HK.out]; rfl, HBJW.out, HZ1.out, HBW.out⟩
end Go.Proofs.YtegekaocbalndaaGreatDoor
end
