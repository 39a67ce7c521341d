/- RaceGuards. -/
import Derived.Test.YtkcpoebepiipoaaGi
import Derived.Test.YtkcpoebepiipoaaGj
import Derived.Test.YtkcpoebepiipoaaPk
import Derived.Test.YtkcpoebepiipoaaIz
set_option linter.unusedSimpArgs false
set_option linter.unusedVariables false
namespace Go.Proofs.Ytkcpoebepiipoaa
open Go.RowKit

theorem evcells_appd : ∀ (l' l : List Ev), evcells (l ++ l') = evcells l ++ evcells l'
  | [], l => by simp [evcells]
  | e :: l', l => by
    have h1 : l ++ e :: l' = (l ++ [e]) ++ l' := by simp
    have h2 : e :: l' = [e] ++ l' := rfl
    rw [h1, evcells_appd l' (l ++ [e]), evcells_app, h2, evcells_appd l' [e], List.append_assoc]
    congr 1
    have := evcells_app [] e
    simp only [List.nil_append] at this
    rw [this]
    rfl
theorem ec1 (a : Ev) : evcells [a] = [.int .i64 a.t, .int .i64 a.k, .int .i64 a.o] := by
  have := evcells_app [] a
  simpa [evcells] using this
theorem ec2 (a b : Ev) : evcells [a, b] = [.int .i64 a.t, .int .i64 a.k, .int .i64 a.o, .int .i64 b.t, .int .i64 b.k, .int .i64 b.o] := by
  have h : [a, b] = [a] ++ [b] := rfl
  rw [h, evcells_appd, ec1, ec1]
  rfl
def gx (zs : List Int) (n : Nat) (i : Nat) : Nat := (pick (zs.getD i 0) (8 * (n : Int))).toNat
def gl (zs : List Int) (n k : Nat) : List Ev := ((List.range k).map (gx zs n)).flatMap gev
theorem gl_succ (zs : List Int) (n k : Nat) : gl zs n (k + 1) = gl zs n k ++ gev (gx zs n k) := by simp [gl, List.range_succ]
theorem gl_len (zs : List Int) (n k : Nat) : (gl zs n k).length ≤ k * 5 := by
  have := guard_len ((List.range k).map (gx zs n))
  simpa [gl] using this
theorem gx_lt (zs : List Int) (n : Nat) (hn : 1 ≤ n) (i : Nat) : gx zs n i < 8 * n ∧ pick (zs.getD i 0) (8 * (n : Int)) = (gx zs n i : Nat) := by
  unfold gx pick
  rw [if_neg (by omega)]
  have h1 := Int.emod_nonneg (zs.getD i 0) (show (8 * (n : Int)) ≠ 0 by omega)
  have h2 := Int.emod_lt_of_pos (zs.getD i 0) (show (0 : Int) < 8 * (n : Int) by omega)
  omega
theorem bits_fin : ∀ x : Fin 128, bits .and .i64 ((x.val : Nat) : Int) 1 = ((x.val % 2 : Nat) : Int) ∧ bits .and .i64 (((x.val / 2 : Nat)) : Int) 1 = ((x.val / 2 % 2 : Nat) : Int) ∧ bits .and .i64 ((x.val : Nat) : Int) 4 = ((4 * (x.val / 4 % 2) : Nat) : Int) := by decide
theorem bits_x (x : Nat) (h : x < 128) : bits .and .i64 (x : Int) 1 = ((x % 2 : Nat) : Int) ∧ bits .and .i64 ((x / 2 : Nat) : Int) 1 = ((x / 2 % 2 : Nat) : Int) ∧ bits .and .i64 (x : Int) 4 = ((4 * (x / 4 % 2) : Nat) : Int) := bits_fin ⟨x, h⟩

set_option maxRecDepth 100000 in
set_option maxHeartbeats 4000000 in
theorem guarded_any (zs : List Int) (m : Nat) (hm : m = zs.length) (hl : m ≤ 40) (n : Nat) (hn1 : 1 ≤ n) (hn2 : n ≤ 16) (hz : Zw zs) (A : Option Addr) (cap B : Nat) (w : World) (hA : Zs w B A zs) (hB : B ≤ w.heap.size) :
    Calls Try.prog 24 #[.slice A m cap, .int .i64 n] w fun e w' => ∃ v, e = .returned v ∧ w'.ownsRow w.heap.size 24 3 v (gl zs n m).length (evcells (gl zs n m)) ∧ Below w.heap.size w w' := by
  have HA := Lib.hid hA; have HZ := Lib.hid hz; have HM := Lib.hid hm
  clear hA hz hm
  go_enter Try.func24, Try.ntmps24
  go_wp2_with fail
  go_loopw [5, 6] (fun ov iv wr => ∃ k : Nat, k ≤ m ∧ iv = .int .i64 k ∧ wr.ownsRow w.heap.size 24 3 ov (gl zs n k).length (evcells (gl zs n k)) ∧ Below w.heap.size w wr) (fun _ iv _ => m - (intOf iv).toNat)
  case atStart => exact ⟨0, by omega, rfl, World.ownsRow_nil _ _ _ _, Below.refl _ _⟩
  case round =>
    obtain ⟨k, hk, rfl, ho, hb⟩ := hrel
    have HO := Lib.hid ho; have HB := Lib.hid hb
    clear ho hb
    by_cases hlt : k < m
    · obtain ⟨b, off, rfl, hbl, hc⟩ := HA.out k (by rw [← HM.out]; exact hlt)
      have c1 := (HB.out.cell (p := ⟨b, off + k, none⟩) (Nat.lt_of_lt_of_le hbl hB)).trans hc
      clear hc
      have hx := HZ.out k (by rw [← HM.out]; exact hlt)
      obtain ⟨hg1, hg2⟩ := gx_lt zs n hn1 k
      have HP := Lib.hid (pick_any (zs.getD k 0) (8 * (n : Int)) hx (by omega) (by omega) wr)
      have HS := Lib.hid (gl_succ zs n k)
      have hlen := gl_len zs n k
      have hx128 : gx zs n k < 128 := by omega
      rw [hg2] at HP
      have w8 : IntKind.i64.wrap (8 * (n : Int)) = 8 * n := wi64 _ (by omega) (by omega)
      generalize gx zs n k = x at *
      generalize zs.getD k 0 = z at *
      generalize hL : gl zs n k = L at *
      obtain ⟨e1, e2, e3⟩ := bits_x x hx128
      have e0 : (x : Int) / 8 = ((x / 8 : Nat) : Int) := by omega
      have HG : Hid (gev x = [⟨(x / 8 : Nat), 3, 0⟩, ⟨(x / 8 : Nat), (1 + x % 2 : Nat), (x / 2 % 2 : Nat)⟩] ++ (if x / 4 % 2 = 1 then [⟨(x / 8 : Nat), 0, 0⟩, ⟨(x / 8 : Nat), 2, 0⟩] else []) ++ [⟨(x / 8 : Nat), 4, 0⟩]) := Lib.hid rfl
      have h4 : x / 4 % 2 < 2 := Nat.mod_lt _ (by omega)
      have h2 : x % 2 < 2 := Nat.mod_lt _ (by omega)
      have e2' : bits .and .i64 ((x : Int) / 2) 1 = ((x / 2 % 2 : Nat) : Int) := by rw [← e2]; congr 1
      clear e2
      generalize x / 8 = t at *
      generalize x % 2 = a at *
      generalize x / 4 % 2 = f at *
      generalize hy : x / 2 = y at *
      generalize y % 2 = o at *
      have ws : IntKind.i64.wrap (1 + (a : Int)) = 1 + a := wi64 _ (by omega) (by omega)
      clear hg1 hg2 hx
      go_wp2_with fail
      with_reducible refine HP.out.mono ?_
      rintro e w1 ⟨rfl, rfl⟩
      generalize hq : L.length = q at *
      go_upto_region 7 with (fail)
      rcases (show f = 0 ∨ f = 1 by omega) with hf | hf
      · subst hf
        have HE : Hid ((L ++ gev x).length = q + 2 + 1 ∧ evcells (L ++ gev x) = evcells L ++ [.int .i64 (t : Int), .int .i64 3, .int .i64 0, .int .i64 (t : Int), .int .i64 (1 + (a : Int)), .int .i64 (o : Int)] ++ [.int .i64 (t : Int), .int .i64 4, .int .i64 0]) := Lib.hid ⟨by rw [HG.out, List.length_append, hq]; simp, by rw [HG.out, if_neg (by omega), evcells_appd, evcells_appd, evcells_appd, ec2, ec1]; simp [evcells]⟩
        simp only [Nat.mul_zero, Int.natCast_zero] at e3
        go_upto_region 8 with (at_builtin; refine wpList_append_oneS ES3 [.int .i64 (t : Int), .int .i64 3, .int .i64 0, .int .i64 (t : Int), .int .i64 (1 + (a : Int)), .int .i64 (o : Int)] _ rfl rfl (.tmp 24) (.tmp 35) rfl w.heap.size (by intro u hu; simp at hu; rcases hu with rfl | rfl | rfl | rfl | rfl | rfl <;> rfl) 2 rfl _ q _ rfl HO.out rfl (by omega) (by omega) w (Nat.le_refl _) HB.out ?_; intro v2 w2 h2 h3 h4 h5; clear h4 h5; have O2 := Lib.hid h2; have B2 := Lib.hid h3; clear h2 h3; obtain ⟨A2, c2, rfl, _, _, _⟩ := own_rdS O2.out)
        go_upto_region 10 with (fail)
        go_wp2_with (at_builtin; refine wpList_append_oneS ES3 [.int .i64 (t : Int), .int .i64 4, .int .i64 0] _ rfl rfl (.tmp 47) (.tmp 50) rfl w.heap.size (by intro u hu; simp at hu; rcases hu with rfl | rfl | rfl <;> rfl) 1 rfl _ (q + 2) _ rfl O2.out rfl (by omega) (by omega) w (Nat.le_refl _) B2.out ?_; intro v4 w4 h2 h3 h4 h5; clear h4 h5; have O4 := Lib.hid h2; have B4 := Lib.hid h3; clear h2 h3; obtain ⟨A4, c4, rfl, _, _, _⟩ := own_rdS O4.out)
        go_roundw
        case rel => exact ⟨k + 1, by omega, by go_num, by rw [HS.out, HE.out.1, HE.out.2]; exact O4.out, B4.out⟩
        case measure => simp [intOf]; omega
      · subst hf
        have HE : Hid ((L ++ gev x).length = q + 2 + 2 + 1 ∧ evcells (L ++ gev x) = evcells L ++ [.int .i64 (t : Int), .int .i64 3, .int .i64 0, .int .i64 (t : Int), .int .i64 (1 + (a : Int)), .int .i64 (o : Int)] ++ [.int .i64 (t : Int), .int .i64 0, .int .i64 0, .int .i64 (t : Int), .int .i64 2, .int .i64 0] ++ [.int .i64 (t : Int), .int .i64 4, .int .i64 0]) := Lib.hid ⟨by rw [HG.out, List.length_append, hq]; simp, by rw [HG.out, if_pos rfl, evcells_appd, evcells_appd, evcells_appd, ec2, ec2, ec1]; simp⟩
        go_upto_region 8 with (at_builtin; refine wpList_append_oneS ES3 [.int .i64 (t : Int), .int .i64 3, .int .i64 0, .int .i64 (t : Int), .int .i64 (1 + (a : Int)), .int .i64 (o : Int)] _ rfl rfl (.tmp 24) (.tmp 35) rfl w.heap.size (by intro u hu; simp at hu; rcases hu with rfl | rfl | rfl | rfl | rfl | rfl <;> rfl) 2 rfl _ q _ rfl HO.out rfl (by omega) (by omega) w (Nat.le_refl _) HB.out ?_; intro v2 w2 h2 h3 h4 h5; clear h4 h5; have O2 := Lib.hid h2; have B2 := Lib.hid h3; clear h2 h3; obtain ⟨A2, c2, rfl, _, _, _⟩ := own_rdS O2.out)
        go_upto_region 10 with (at_builtin; refine wpList_append_oneS ES3 [.int .i64 (t : Int), .int .i64 0, .int .i64 0, .int .i64 (t : Int), .int .i64 2, .int .i64 0] _ rfl rfl (.tmp 40) (.tmp 45) rfl w.heap.size (by intro u hu; simp at hu; rcases hu with rfl | rfl | rfl | rfl | rfl | rfl <;> rfl) 2 rfl _ (q + 2) _ rfl O2.out rfl (by omega) (by omega) w (Nat.le_refl _) B2.out ?_; intro v3 w3 h2 h3 h4 h5; clear h4 h5; have O3 := Lib.hid h2; have B3 := Lib.hid h3; clear h2 h3; obtain ⟨A3, c3, rfl, _, _, _⟩ := own_rdS O3.out)
        go_wp2_with (at_builtin; refine wpList_append_oneS ES3 [.int .i64 (t : Int), .int .i64 4, .int .i64 0] _ rfl rfl (.tmp 47) (.tmp 50) rfl w.heap.size (by intro u hu; simp at hu; rcases hu with rfl | rfl | rfl <;> rfl) 1 rfl _ (q + 2 + 2) _ rfl O3.out rfl (by omega) (by omega) w (Nat.le_refl _) B3.out ?_; intro v4 w4 h2 h3 h4 h5; clear h4 h5; have O4 := Lib.hid h2; have B4 := Lib.hid h3; clear h2 h3; obtain ⟨A4, c4, rfl, _, _, _⟩ := own_rdS O4.out)
        go_roundw
        case rel => exact ⟨k + 1, by omega, by go_num, by rw [HS.out, HE.out.1, HE.out.2]; exact O4.out, B4.out⟩
        case measure => simp [intOf]; omega
    · obtain rfl : k = m := by omega
      go_wp2_with fail
      go_ret
      exact ⟨_, rfl, HO.out, HB.out⟩
end Go.Proofs.Ytkcpoebepiipoaa
