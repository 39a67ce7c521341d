/- cmp.Compare at int; norm.Levels' comparison: threads. -/
import Derived.Test.YtaalinhkikmfaaaEd
import Derived.Test.YtaalinhkikmfaaaSh
import Derived.Lib.SortBridge
set_option linter.unusedSimpArgs false
set_option linter.unusedVariables false
namespace Go.Proofs.Ytaalinhkikmfaaa
open Go.RowKit

def cmpI (x y : Int) : Int := if x < y then -1 else if y < x then 1 else 0
set_option maxRecDepth 100000 in
set_option maxHeartbeats 1000000 in
theorem isnan_any (x : Int) (w : World) : Calls Try.prog 57 #[.int .i64 x] w fun e w' => e = .returned (.bool false) ∧ w' = w := by
  have hx : (x != x) = false := by simp
  go_enter Try.func57, Try.ntmps57
  go_wp2_with fail
  go_ret
  exact ⟨by simp, rfl⟩
set_option maxRecDepth 100000 in
set_option maxHeartbeats 1000000 in
theorem compare_any (x y : Int) (w : World) : Calls Try.prog 43 #[.int .i64 x, .int .i64 y] w fun e w' => e = .returned (.int .i64 (cmpI x y)) ∧ w' = w := by
  have H1 := Lib.hid (isnan_any x w); have H2 := Lib.hid (isnan_any y w)
  have HC : Hid (cmpI x y = if x < y then -1 else if y < x then 1 else 0) := Lib.hid rfl
  go_enter Try.func43, Try.ntmps43
  go_wp2_with fail
  refine H1.out.mono ?_
  rintro e w1 ⟨rfl, rfl⟩
  go_wp2_with fail
  refine H2.out.mono ?_
  rintro e w1 ⟨rfl, rfl⟩
  by_cases h1 : x < y
  · go_wp2_with fail
    go_ret
    exact ⟨by rw [HC.out, if_pos h1]; rfl, rfl⟩
  · by_cases h2 : y < x
    · go_wp2_with fail
      go_ret
      exact ⟨by rw [HC.out, if_neg (Int.not_lt.2 h1), if_pos h2]; rfl, rfl⟩
    · go_wp2_with fail
      go_ret
      exact ⟨by rw [HC.out, if_neg (Int.not_lt.2 h1), if_neg (Int.not_lt.2 h2)]; rfl, rfl⟩
set_option maxRecDepth 100000 in
set_option maxHeartbeats 1000000 in
/-- nothing is laid: it only draws. -/
theorem byThread (l : List Ev) (m : Nat) (hm : m = l.length) (A : Option Addr) (c g B : Nat) (w : World) (hg : w.cell? ⟨g, 0, none⟩ = some (.slice A m c)) (hA : Evs w B A l) (a b : Nat) (ha : a < m) (hb : b < m) :
    Calls Try.prog 42 #[.int .i64 (a : Nat), .int .i64 (b : Nat), .pointer (some ⟨g, 0, none⟩)] w fun e w' => e = .returned (.int .i64 (cmpI (ev l a).t (ev l b).t)) ∧ ∃ q, w' = w.drewN q := by
  obtain ⟨be, oe, rfl, hbe, e1, _, _⟩ := hA a (by omega)
  obtain ⟨be2, oe2, he, hbe2, e2, _, _⟩ := hA b (by omega)
  injection he with he
  injection he with he1 he2
  subst he1; subst he2
  clear hA hm hbe hbe2
  generalize (ev l a).t = x at *
  generalize (ev l b).t = y at *
  have T : Hid (∀ W, (∃ q, W = w.drewN q) → W.cell? ⟨g, 0, none⟩ = some (.slice (some ⟨be, oe, none⟩) m c) ∧ W.cell? ⟨be, oe + a * 3, none⟩ = some (.int .i64 x) ∧ W.cell? ⟨be, oe + b * 3, none⟩ = some (.int .i64 y)) := Lib.hid fun W ⟨q, h⟩ => by
    subst h
    exact ⟨hg, e1, e2⟩
  have g1 : (0 : Int) ≤ a := by omega
  have g2 : (a : Int) < m := by omega
  have g3 : (0 : Int) ≤ b := by omega
  have g4 : (b : Int) < m := by omega
  clear hg e1 e2
  go_enter Try.func42, Try.ntmps42
  go_upto_region 1 with (fail)
  apply wp_region_relJ (H := []) (fun W => ∃ q, W = w.drewN q) (fun _ => True) (fun _ _ => True) 12 [(Sum.inl _ : TJ), (Sum.inl _ : TJ), (Sum.inl _ : TJ), (Sum.inl _ : TJ), (Sum.inl _ : TJ), (Sum.inl _ : TJ), (Sum.inl _ : TJ), (Sum.inl _ : TJ), (Sum.inl _ : TJ), (Sum.inl _ : TJ), (Sum.inl _ : TJ), (Sum.inl _ : TJ)] [false, false, false, false, false, false, false, false, false, false, false, false] (by kernel_rfl) (by kernel_rfl) (by rfl) (fun _ _ _ _ _ h => h) (by kernel_rfl) rfl rfl (fun _ _ _ => trivial) (fun _ _ h _ => h) (⟨1, rfl⟩) (trivial)
  simp only [List.take_succ_cons, List.take_zero, List.drop_succ_cons, List.drop_zero]
  iterate 10 (apply rel_isJ; (intro W hW hf; obtain ⟨z1, z2, z3⟩ := T.out W hW; go_simp; first | exact ⟨⟨hW, Below.refl _ _⟩, rfl⟩ | exact ⟨Below.refl _ _, rfl⟩ | rfl); simp only [Act.put, List.setIfInBounds_toArray, List.set_cons_succ, List.set_cons_zero])
  apply rel_isJ
  · intro W hW hf
    refine rel_callVJ rfl (by go_simp <;> exact ⟨rfl, rfl⟩) ((compare_any x y W).mono fun e w'' h => ⟨h.1, ?_, ?_⟩)
    · rw [h.2]; exact hW
    · rw [h.2]; exact Below.refl _ _
  simp only [Act.put, List.setIfInBounds_toArray, List.set_cons_succ, List.set_cons_zero]
  iterate 1 (apply rel_isJ; (intro W hW hf; go_simp; first | exact ⟨⟨hW, Below.refl _ _⟩, rfl⟩ | exact ⟨Below.refl _ _, rfl⟩ | rfl); simp only [Act.put, List.setIfInBounds_toArray, List.set_cons_succ, List.set_cons_zero])
  refine rel_endJ ?_
  intro W hW hS hf
  try simp only [Act.put, List.setIfInBounds_toArray, List.set_cons_succ, List.set_cons_zero]
  refine wpList_nil ?_
  have HW := Lib.hid hW
  clear hW hf hS
  go_wp2_with fail
  go_ret
  exact ⟨rfl, HW.out⟩
end Go.Proofs.Ytaalinhkikmfaaa
