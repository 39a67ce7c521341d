/- plain law of TenantBinds: the tenants that it makes. -/
import Derived.Test.YtkdkpnidiehdfaaDoorYa
set_option linter.unusedSimpArgs false
set_option linter.unusedVariables false
namespace Go.Proofs.YtkdkpnidiehdfaaDoor
open Go.RowKit

def bNm (i : Nat) : List UInt8 := [116, UInt8.ofNat (97 + i / 8), UInt8.ofNat (97 + i % 8)]
def bTn (i : Nat) : Tn := ⟨bNm i, sha [UInt8.ofNat i], 60000, 1, 1⟩
def bTns (n : Nat) : List Tn := (List.range n).map bTn
theorem bTns_length (n : Nat) : (bTns n).length = n := by simp [bTns]
theorem bTns_get {n i : Nat} (h : i < n) : (bTns n).getD i tn0 = bTn i := by simp [bTns, List.getD_eq_getElem?_getD, h]
theorem bTns_succ (n : Nat) : bTns (n + 1) = bTns n ++ [bTn n] := by simp [bTns, List.range_succ]
theorem bTns_toks (n : Nat) : Toks (bTns n) := by
  intro x hx
  obtain ⟨i, _, rfl⟩ := List.mem_map.1 hx
  exact sha_length _
def hd3 (l : List UInt8) : Nat := match l with
  | a :: b :: c :: _ => a.toNat * 65536 + b.toNat * 256 + c.toNat
  | _ => 0
set_option maxRecDepth 100000 in
theorem h3_0 : hd3 (sha [UInt8.ofNat 0]) = 7222283 := by decide +kernel
set_option maxRecDepth 100000 in
theorem h3_1 : hd3 (sha [UInt8.ofNat 1]) = 4977938 := by decide +kernel
set_option maxRecDepth 100000 in
theorem h3_2 : hd3 (sha [UInt8.ofNat 2]) = 14401972 := by decide +kernel
set_option maxRecDepth 100000 in
theorem h3_3 : hd3 (sha [UInt8.ofNat 3]) = 544749 := by decide +kernel
set_option maxRecDepth 100000 in
theorem h3_4 : hd3 (sha [UInt8.ofNat 4]) = 15019420 := by decide +kernel
set_option maxRecDepth 100000 in
theorem h3_5 : hd3 (sha [UInt8.ofNat 5]) = 15170458 := by decide +kernel
set_option maxRecDepth 100000 in
theorem h3_6 : hd3 (sha [UInt8.ofNat 6]) = 6772846 := by decide +kernel
set_option maxRecDepth 100000 in
theorem h3_7 : hd3 (sha [UInt8.ofNat 7]) = 13251975 := by decide +kernel
set_option maxRecDepth 100000 in
theorem h3_8 : hd3 (sha [UInt8.ofNat 8]) = 12511959 := by decide +kernel
set_option maxRecDepth 100000 in
theorem h3_9 : hd3 (sha [UInt8.ofNat 9]) = 2837556 := by decide +kernel
set_option maxRecDepth 100000 in
theorem h3_10 : hd3 (sha [UInt8.ofNat 10]) = 113223 := by decide +kernel
set_option maxRecDepth 100000 in
theorem h3_11 : hd3 (sha [UInt8.ofNat 11]) = 15191878 := by decide +kernel
set_option maxRecDepth 100000 in
theorem h3_12 : hd3 (sha [UInt8.ofNat 12]) = 15690941 := by decide +kernel
set_option maxRecDepth 100000 in
theorem h3_13 : hd3 (sha [UInt8.ofNat 13]) = 10296846 := by decide +kernel
set_option maxRecDepth 100000 in
theorem h3_14 : hd3 (sha [UInt8.ofNat 14]) = 5077822 := by decide +kernel
set_option maxRecDepth 100000 in
theorem h3_15 : hd3 (sha [UInt8.ofNat 15]) = 14421660 := by decide +kernel
set_option maxRecDepth 100000 in
theorem h3_16 : hd3 (sha [UInt8.ofNat 16]) = 12932586 := by decide +kernel
set_option maxRecDepth 100000 in
theorem h3_17 : hd3 (sha [UInt8.ofNat 17]) = 4875425 := by decide +kernel
set_option maxRecDepth 100000 in
theorem h3_18 : hd3 (sha [UInt8.ofNat 18]) = 15899001 := by decide +kernel
set_option maxRecDepth 100000 in
theorem h3_19 : hd3 (sha [UInt8.ofNat 19]) = 11241855 := by decide +kernel
set_option maxRecDepth 100000 in
theorem h3_20 : hd3 (sha [UInt8.ofNat 20]) = 8620317 := by decide +kernel
set_option maxRecDepth 100000 in
theorem h3_21 : hd3 (sha [UInt8.ofNat 21]) = 3084241 := by decide +kernel
set_option maxRecDepth 100000 in
theorem h3_22 : hd3 (sha [UInt8.ofNat 22]) = 8173508 := by decide +kernel
set_option maxRecDepth 100000 in
theorem h3_23 : hd3 (sha [UInt8.ofNat 23]) = 9376176 := by decide +kernel
set_option maxRecDepth 100000 in
theorem h3_24 : hd3 (sha [UInt8.ofNat 24]) = 4533153 := by decide +kernel
set_option maxRecDepth 100000 in
theorem h3_25 : hd3 (sha [UInt8.ofNat 25]) = 6859310 := by decide +kernel
set_option maxRecDepth 100000 in
theorem h3_26 : hd3 (sha [UInt8.ofNat 26]) = 5830576 := by decide +kernel
set_option maxRecDepth 100000 in
theorem h3_27 : hd3 (sha [UInt8.ofNat 27]) = 7843324 := by decide +kernel
set_option maxRecDepth 100000 in
theorem h3_28 : hd3 (sha [UInt8.ofNat 28]) = 12406724 := by decide +kernel
set_option maxRecDepth 100000 in
theorem h3_29 : hd3 (sha [UInt8.ofNat 29]) = 2037974 := by decide +kernel
set_option maxRecDepth 100000 in
theorem h3_30 : hd3 (sha [UInt8.ofNat 30]) = 9851481 := by decide +kernel
set_option maxRecDepth 100000 in
theorem h3_31 : hd3 (sha [UInt8.ofNat 31]) = 16770681 := by decide +kernel
set_option maxRecDepth 100000 in
theorem h3_32 : hd3 (sha [UInt8.ofNat 32]) = 3582439 := by decide +kernel
set_option maxRecDepth 100000 in
theorem h3_33 : hd3 (sha [UInt8.ofNat 33]) = 12284424 := by decide +kernel
set_option maxRecDepth 100000 in
theorem h3_34 : hd3 (sha [UInt8.ofNat 34]) = 9057055 := by decide +kernel
set_option maxRecDepth 100000 in
theorem h3_35 : hd3 (sha [UInt8.ofNat 35]) = 3359577 := by decide +kernel
set_option maxRecDepth 100000 in
theorem h3_36 : hd3 (sha [UInt8.ofNat 36]) = 654486 := by decide +kernel
set_option maxRecDepth 100000 in
theorem h3_37 : hd3 (sha [UInt8.ofNat 37]) = 12317681 := by decide +kernel
set_option maxRecDepth 100000 in
theorem h3_38 : hd3 (sha [UInt8.ofNat 38]) = 9772494 := by decide +kernel
set_option maxRecDepth 100000 in
theorem h3_39 : hd3 (sha [UInt8.ofNat 39]) = 2514906 := by decide +kernel
set_option maxRecDepth 100000 in
theorem h3_40 : hd3 (sha [UInt8.ofNat 40]) = 3337137 := by decide +kernel
set_option maxRecDepth 100000 in
theorem h3_41 : hd3 (sha [UInt8.ofNat 41]) = 12213957 := by decide +kernel
set_option maxRecDepth 100000 in
theorem h3_42 : hd3 (sha [UInt8.ofNat 42]) = 6834312 := by decide +kernel
set_option maxRecDepth 100000 in
theorem h3_43 : hd3 (sha [UInt8.ofNat 43]) = 10688706 := by decide +kernel
set_option maxRecDepth 100000 in
theorem h3_44 : hd3 (sha [UInt8.ofNat 44]) = 13645058 := by decide +kernel
set_option maxRecDepth 100000 in
theorem h3_45 : hd3 (sha [UInt8.ofNat 45]) = 3765216 := by decide +kernel
set_option maxRecDepth 100000 in
theorem h3_46 : hd3 (sha [UInt8.ofNat 46]) = 13481198 := by decide +kernel
set_option maxRecDepth 100000 in
theorem h3_47 : hd3 (sha [UInt8.ofNat 47]) = 9068250 := by decide +kernel
set_option maxRecDepth 100000 in
theorem h3_48 : hd3 (sha [UInt8.ofNat 48]) = 6286571 := by decide +kernel
set_option maxRecDepth 100000 in
theorem h3_49 : hd3 (sha [UInt8.ofNat 49]) = 7046834 := by decide +kernel
set_option maxRecDepth 100000 in
theorem h3_50 : hd3 (sha [UInt8.ofNat 50]) = 13923166 := by decide +kernel
set_option maxRecDepth 100000 in
theorem h3_51 : hd3 (sha [UInt8.ofNat 51]) = 5113664 := by decide +kernel
set_option maxRecDepth 100000 in
theorem h3_52 : hd3 (sha [UInt8.ofNat 52]) = 4924023 := by decide +kernel
set_option maxRecDepth 100000 in
theorem h3_53 : hd3 (sha [UInt8.ofNat 53]) = 15674642 := by decide +kernel
set_option maxRecDepth 100000 in
theorem h3_54 : hd3 (sha [UInt8.ofNat 54]) = 15201984 := by decide +kernel
set_option maxRecDepth 100000 in
theorem h3_55 : hd3 (sha [UInt8.ofNat 55]) = 7930473 := by decide +kernel
set_option maxRecDepth 100000 in
theorem h3_56 : hd3 (sha [UInt8.ofNat 56]) = 2908738 := by decide +kernel
set_option maxRecDepth 100000 in
theorem h3_57 : hd3 (sha [UInt8.ofNat 57]) = 1660958 := by decide +kernel
set_option maxRecDepth 100000 in
theorem h3_58 : hd3 (sha [UInt8.ofNat 58]) = 15182855 := by decide +kernel
set_option maxRecDepth 100000 in
theorem h3_59 : hd3 (sha [UInt8.ofNat 59]) = 4306949 := by decide +kernel
set_option maxRecDepth 100000 in
theorem h3_60 : hd3 (sha [UInt8.ofNat 60]) = 14335290 := by decide +kernel
set_option maxRecDepth 100000 in
theorem h3_61 : hd3 (sha [UInt8.ofNat 61]) = 3672344 := by decide +kernel
set_option maxRecDepth 100000 in
theorem h3_62 : hd3 (sha [UInt8.ofNat 62]) = 6469246 := by decide +kernel
set_option maxRecDepth 100000 in
theorem h3_63 : hd3 (sha [UInt8.ofNat 63]) = 9080296 := by decide +kernel
set_option maxRecDepth 100000 in
set_option maxHeartbeats 4000000 in
theorem hd3_all : (List.range 64).map (fun i => hd3 (sha [UInt8.ofNat i])) = [7222283, 4977938, 14401972, 544749, 15019420, 15170458, 6772846, 13251975, 12511959, 2837556, 113223, 15191878, 15690941, 10296846, 5077822, 14421660, 12932586, 4875425, 15899001, 11241855, 8620317, 3084241, 8173508, 9376176, 4533153, 6859310, 5830576, 7843324, 12406724, 2037974, 9851481, 16770681, 3582439, 12284424, 9057055, 3359577, 654486, 12317681, 9772494, 2514906, 3337137, 12213957, 6834312, 10688706, 13645058, 3765216, 13481198, 9068250, 6286571, 7046834, 13923166, 5113664, 4924023, 15674642, 15201984, 7930473, 2908738, 1660958, 15182855, 4306949, 14335290, 3672344, 6469246, 9080296] := by
  have e : (List.range 64).map (fun i => hd3 (sha [UInt8.ofNat i])) = [hd3 (sha [UInt8.ofNat 0]), hd3 (sha [UInt8.ofNat 1]), hd3 (sha [UInt8.ofNat 2]), hd3 (sha [UInt8.ofNat 3]), hd3 (sha [UInt8.ofNat 4]), hd3 (sha [UInt8.ofNat 5]), hd3 (sha [UInt8.ofNat 6]), hd3 (sha [UInt8.ofNat 7]), hd3 (sha [UInt8.ofNat 8]), hd3 (sha [UInt8.ofNat 9]), hd3 (sha [UInt8.ofNat 10]), hd3 (sha [UInt8.ofNat 11]), hd3 (sha [UInt8.ofNat 12]), hd3 (sha [UInt8.ofNat 13]), hd3 (sha [UInt8.ofNat 14]), hd3 (sha [UInt8.ofNat 15]), hd3 (sha [UInt8.ofNat 16]), hd3 (sha [UInt8.ofNat 17]), hd3 (sha [UInt8.ofNat 18]), hd3 (sha [UInt8.ofNat 19]), hd3 (sha [UInt8.ofNat 20]), hd3 (sha [UInt8.ofNat 21]), hd3 (sha [UInt8.ofNat 22]), hd3 (sha [UInt8.ofNat 23]), hd3 (sha [UInt8.ofNat 24]), hd3 (sha [UInt8.ofNat 25]), hd3 (sha [UInt8.ofNat 26]), hd3 (sha [UInt8.ofNat 27]), hd3 (sha [UInt8.ofNat 28]), hd3 (sha [UInt8.ofNat 29]), hd3 (sha [UInt8.ofNat 30]), hd3 (sha [UInt8.ofNat 31]), hd3 (sha [UInt8.ofNat 32]), hd3 (sha [UInt8.ofNat 33]), hd3 (sha [UInt8.ofNat 34]), hd3 (sha [UInt8.ofNat 35]), hd3 (sha [UInt8.ofNat 36]), hd3 (sha [UInt8.ofNat 37]), hd3 (sha [UInt8.ofNat 38]), hd3 (sha [UInt8.ofNat 39]), hd3 (sha [UInt8.ofNat 40]), hd3 (sha [UInt8.ofNat 41]), hd3 (sha [UInt8.ofNat 42]), hd3 (sha [UInt8.ofNat 43]), hd3 (sha [UInt8.ofNat 44]), hd3 (sha [UInt8.ofNat 45]), hd3 (sha [UInt8.ofNat 46]), hd3 (sha [UInt8.ofNat 47]), hd3 (sha [UInt8.ofNat 48]), hd3 (sha [UInt8.ofNat 49]), hd3 (sha [UInt8.ofNat 50]), hd3 (sha [UInt8.ofNat 51]), hd3 (sha [UInt8.ofNat 52]), hd3 (sha [UInt8.ofNat 53]), hd3 (sha [UInt8.ofNat 54]), hd3 (sha [UInt8.ofNat 55]), hd3 (sha [UInt8.ofNat 56]), hd3 (sha [UInt8.ofNat 57]), hd3 (sha [UInt8.ofNat 58]), hd3 (sha [UInt8.ofNat 59]), hd3 (sha [UInt8.ofNat 60]), hd3 (sha [UInt8.ofNat 61]), hd3 (sha [UInt8.ofNat 62]), hd3 (sha [UInt8.ofNat 63])] := rfl
  rw [e, h3_0, h3_1, h3_2, h3_3, h3_4, h3_5, h3_6, h3_7, h3_8, h3_9, h3_10, h3_11, h3_12, h3_13, h3_14, h3_15, h3_16, h3_17, h3_18, h3_19, h3_20, h3_21, h3_22, h3_23, h3_24, h3_25, h3_26, h3_27, h3_28, h3_29, h3_30, h3_31, h3_32, h3_33, h3_34, h3_35, h3_36, h3_37, h3_38, h3_39, h3_40, h3_41, h3_42, h3_43, h3_44, h3_45, h3_46, h3_47, h3_48, h3_49, h3_50, h3_51, h3_52, h3_53, h3_54, h3_55, h3_56, h3_57, h3_58, h3_59, h3_60, h3_61, h3_62, h3_63]
theorem hd3_nodup : ([7222283, 4977938, 14401972, 544749, 15019420, 15170458, 6772846, 13251975, 12511959, 2837556, 113223, 15191878, 15690941, 10296846, 5077822, 14421660, 12932586, 4875425, 15899001, 11241855, 8620317, 3084241, 8173508, 9376176, 4533153, 6859310, 5830576, 7843324, 12406724, 2037974, 9851481, 16770681, 3582439, 12284424, 9057055, 3359577, 654486, 12317681, 9772494, 2514906, 3337137, 12213957, 6834312, 10688706, 13645058, 3765216, 13481198, 9068250, 6286571, 7046834, 13923166, 5113664, 4924023, 15674642, 15201984, 7930473, 2908738, 1660958, 15182855, 4306949, 14335290, 3672344, 6469246, 9080296] : List Nat).Nodup := by decide +kernel
theorem bTn_tok {i j : Nat} (hi : i < 64) (hj : j < 64) (h : (bTn i).tok = (bTn j).tok) : i = j := by
  have hn := hd3_nodup
  rw [← hd3_all] at hn
  have e : hd3 (sha [UInt8.ofNat i]) = hd3 (sha [UInt8.ofNat j]) := by
    have h' : sha [UInt8.ofNat i] = sha [UInt8.ofNat j] := h
    rw [h']
  have hp := List.pairwise_iff_getElem.1 hn
  rcases Nat.lt_trichotomy i j with h1 | h1 | h1
  · exact absurd (by rw [List.getElem_map, List.getElem_map, List.getElem_range, List.getElem_range]; exact e) (hp i j (by simpa using hi) (by simpa using hj) h1)
  · exact h1
  · exact absurd (by rw [List.getElem_map, List.getElem_map, List.getElem_range, List.getElem_range]; exact e.symm) (hp j i (by simpa using hj) (by simpa using hi) h1)
theorem bNm_ne : ∀ i, i < 64 → ∀ j, j < 64 → bNm i = bNm j → i = j := by decide +kernel
theorem bNm_ok : ∀ i, i < 64 → okName (bNm i) = true := by decide +kernel
theorem twice_no {ts : List Tn} {i : Nat} : ∀ k, (∀ j, j < k → (ts.getD j tn0).nm ≠ (ts.getD i tn0).nm ∧ (ts.getD j tn0).tok ≠ (ts.getD i tn0).tok) → twice ts i k = false
  | 0, _ => rfl
  | k + 1, h => by
    have h1 := h k (by omega)
    unfold twice
    rw [twice_no k fun j hj => h j (by omega), decide_eq_false h1.1, decide_eq_false h1.2]
    rfl
theorem chk_bTns (n : Nat) (h1 : 1 ≤ n) (h2 : n ≤ 64) : chk (bTns n) = 0 := by
  unfold chk
  rw [bTns_length, if_neg (by omega)]
  have key : ∀ k, k ≤ n → chkTo (bTns n) k = 0 := by
    intro k
    induction k with
    | zero => intro _; rfl
    | succ k ih =>
      intro hk
      refine chkTo_on (ih (by omega)) ?_
      unfold chkAt
      rw [bTns_get (by omega), if_neg (by rw [show (bTn k).nm = bNm k from rfl, bNm_ok k (by omega)]; simp), twice_no k (fun j hj => ?_)]
      · rw [if_neg (by simp), if_neg (by simp [fits, bTn])]
      · rw [bTns_get (by omega), bTns_get (by omega)]
        exact ⟨fun e => by have := bNm_ne j (by omega) k (by omega) e; omega, fun e => by have := bTn_tok (by omega) (by omega) e; omega⟩
  exact key n (Nat.le_refl _)
theorem pick_bTn {n c : Nat} (hn : n ≤ 64) : ∀ k, k ≤ n → c < k → pick (bTns n) (bTn c).tok k = c
  | 0, _, h => absurd h (by omega)
  | k + 1, hk, h => by
    unfold pick
    rw [bTns_get (by omega)]
    by_cases e : c = k
    · rw [e, if_pos rfl]
    · rw [if_neg (fun h2 => e (bTn_tok (by omega) (by omega) h2)), pick_bTn hn k (by omega) (by omega)]
theorem pick_none {ts : List Tn} {d : List UInt8} : ∀ k, (∀ j, j < k → ¬ (ts.getD j tn0).tok = d) → pick ts d k = -1
  | 0, _ => rfl
  | k + 1, h => by
    unfold pick
    rw [if_neg (fun e => h k (by omega) e.symm), pick_none k fun j hj => h j (by omega)]
theorem pick_some {ts : List Tn} {d : List UInt8} : ∀ k j, j < k → (ts.getD j tn0).tok = d → 0 ≤ pick ts d k
  | 0, j, h, _ => absurd h (by omega)
  | k + 1, j, h, e => by
    unfold pick
    split
    · omega
    · rename_i h2
      by_cases hj : j = k
      · exact absurd (by rw [← e, hj]) h2
      · exact pick_some k j (by omega) e
/-- the one call of a table that nobody uses. -/
theorem auth_bTns {n : Nat} {x : Int} (hx : 0 ≤ x) (tok : List UInt8) (h : 0 ≤ pick (bTns n) (sha tok) n) :
    (⟨bTns n, []⟩ : Tb).auth x tok = ((pick (bTns n) (sha tok) n, 0), ⟨bTns n, [(x, pick (bTns n) (sha tok) n)]⟩) := by
  unfold Tb.auth
  have hr := (pick_range (bTns n) (sha tok) n).2
  simp only [bTns_length]
  rw [if_neg (by omega), if_neg (by simp [zget]), if_neg (by omega), bTns_get (by omega), if_neg (by simp [bTn, connsOf])]
  rfl
theorem auth_no {n : Nat} {x : Int} (hx : 0 ≤ x) (tok : List UInt8) (h : pick (bTns n) (sha tok) n = -1) :
    (⟨bTns n, []⟩ : Tb).auth x tok = ((0, 11), ⟨bTns n, []⟩) := by
  unfold Tb.auth
  simp only [bTns_length]
  rw [if_neg (by omega), if_neg (by simp [zget]), if_pos (by omega)]
theorem one_who (ts : List Tn) (x y : Int) : (⟨ts, [(x, y)]⟩ : Tb).who x = (y, true) := by simp [Tb.who, zget]
theorem one_conns (x y : Int) : connsOf [(x, y)] y = [x] := by simp [connsOf]
theorem one_leave (ts : List Tn) (x y : Int) : (⟨ts, [(x, y)]⟩ : Tb).leave x = (0, ⟨ts, []⟩) := by simp [Tb.leave, zget, zdel]
theorem none_who (ts : List Tn) (x : Int) : (⟨ts, []⟩ : Tb).who x = (0, false) := by simp [Tb.who, zget]
theorem none_conns (y : Int) : connsOf [] y = [] := rfl
end Go.Proofs.YtkdkpnidiehdfaaDoor
