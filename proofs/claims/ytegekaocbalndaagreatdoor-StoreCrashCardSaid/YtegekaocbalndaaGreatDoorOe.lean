/- the frame in front of bytes. -/
import Derived.Test.YtegekaocbalndaaGreatDoorMg4
import Derived.Test.YtegekaocbalndaaGreatDoorMg3
import Derived.Test.YtegekaocbalndaaGreatDoorKg
import Derived.Test.YtegekaocbalndaaGreatDoorReld
set_option linter.unusedSimpArgs false
set_option linter.unusedVariables false
namespace Go.Proofs.YtegekaocbalndaaGreatDoor
open Go.RowKit

theorem Bs.seg {w : World} {B b off : Nat} {l : List UInt8} (h : Bs w B (some ⟨b, off, none⟩) l) (o n : Nat) : Bs w B (some ⟨b, off + o, none⟩) (seg l o n) := fun j hj => by
  have h2 : j < n ∧ o + j < l.length := by simp [Go.Proofs.YtegekaocbalndaaGreatDoor.seg] at hj; omega
  obtain ⟨b', off', e, hb, hc⟩ := h (o + j) h2.2
  injection e with e; injection e with e1 e2
  subst e1 e2
  refine ⟨b, off + o, rfl, hb, ?_⟩
  rw [Nat.add_assoc, hc, List.getD_eq_getElem?_getD, List.getD_eq_getElem?_getD, seg_get _ _ _ _ h2.1]
theorem Bs.empty {w : World} {B : Nat} {A : Option Addr} : Bs w B A [] := fun j hj => absurd hj (by simp)
theorem SlB.own {w : World} {base : Nat} {v : Value} {l : List UInt8} {n : Nat} (h : w.ownsRow base 5 1 v n (bcells l)) (hn : n = l.length) : SlB l v w := by
  subst hn
  obtain ⟨A, c, rfl, hr, h0, _⟩ := own_rd h
  exact ⟨A, c, rfl, hr.bs, fun e => List.eq_nil_of_length_eq_zero (h0 e)⟩
set_option maxRecDepth 100000 in
set_option maxHeartbeats 400000 in
theorem equal_any (la lb : List UInt8) (A B : Option Addr) (n m ca cb : Nat) (w : World) (Ba Bb : Nat) (hn : n = la.length) (hm : m = lb.length) (ha : Bs w Ba A la) (hA : A = none → la = []) (hb : Bs w Bb B lb) (hB : B = none → lb = []) :
    Calls Tryz.prog 91 #[.slice A n ca, .slice B m cb] w fun e w' => e = .returned (.bool (decide (la = lb))) ∧ w = w' := by
  have h1 := run_conv_bytes w 30 5 9 Tryz.underlying30 Tryz.underlying5 Tryz.underlying9 Ba A la n ca hn ha hA
  have h2 := run_conv_bytes w 30 5 9 Tryz.underlying30 Tryz.underlying5 Tryz.underlying9 Bb B lb m cb hm hb hB
  clear ha hA hb hB hn hm
  go_enter Tryz.func91, Tryz.ntmps91
  go_wp2_with fail
  go_ret
  exact ⟨ret_bool (by rw [str_toList, str_toList]; by_cases h : la = lb <;> simp [h]), rfl⟩
theorem number_at (l : List UInt8) (n : Nat) (hn : n = l.length) (h1 : 1 ≤ n) (h8 : n ≤ 8) (A : Option Addr) (cap B : Nat) (w : World) (hA : Bs w B A l) :
    Calls Tryz.prog 57 #[.slice A n cap] w fun e w' => e = .returned (.tuple #[.int .u64 (num l : Nat), .int .i64 0]) ∧ w = w' := by
  subst hn; exact number_any l h1 h8 A cap B w hA
theorem not_u32 (n : Nat) (h : n < 4294967296) : bits .xor .u32 IntKind.u32.max (n : Int) = 4294967295 - (n : Int) := by
  have := w32_not' (UInt32.ofNat n)
  rw [← w32_not] at this
  simpa [UInt32.toNat_ofNat', Nat.mod_eq_of_lt h] using this
theorem check_at (l : List UInt8) (n : Nat) (hn : n = l.length) (hl : n ≤ 100000000) (A : Option Addr) (cap B : Nat) (w : World) (hA : Bs w B A l) :
    Calls Tryz.prog 69 #[.slice A n cap] w fun e w' => e = .returned (.int .u32 ((check l).toNat : Int)) ∧ w = w' := by
  subst hn; exact check_any l hl A cap B w hA
theorem equal_sl (la lb : List UInt8) (v : Value) (B : Option Addr) (m cb : Nat) (w : World) (Bb : Nat) (h : SlB la v w) (hm : m = lb.length) (hb : Bs w Bb B lb) (hB : B = none → lb = []) :
    Calls Tryz.prog 91 #[v, .slice B m cb] w fun e w' => e = .returned (.bool (decide (la = lb))) ∧ w = w' := by
  obtain ⟨A, c, rfl, h1, h2⟩ := h
  exact equal_any la lb A B _ m c cb w _ Bb rfl hm h1 h2 hb hB
def NextP (l : List UInt8) (B : Nat) (w : World) (e : Ending) (w' : World) : Prop :=
  ∃ A' c', e = .returned (.tuple #[.slice A' (nextL l).1.length c', .int .i64 ((nextL l).2.1 : Nat), .int .i64 ((nextL l).2.2 : Nat)]) ∧ Bs w' B A' (nextL l).1 ∧ (A' = none → (nextL l).1 = []) ∧ Below w.heap.size w w'
theorem NextP.stop {l : List UInt8} {B how : Nat} {w w' : World} {e : Ending} (h : nextL l = ([], 0, how)) (he : e = .returned (.tuple #[.slice none 0 0, .int .i64 0, .int .i64 (how : Nat)])) (hb : Below w.heap.size w w') : NextP l B w e w' := by
  refine ⟨none, 0, ?_, ?_, ?_, hb⟩ <;> rw [h]
  · exact he
  · exact Bs.empty
  · exact fun _ => rfl
theorem NextP.whole {l r : List UInt8} {B k n b o c' : Nat} {z : Int} {w w' : World} {e : Ending} (h : nextL l = (r, k, 0)) (hr : r.length = n) (hz : z = k) (he : e = .returned (.tuple #[.slice (some ⟨b, o, none⟩) n c', .int .i64 z, .int .i64 0]))
    (hb : Bs w' B (some ⟨b, o, none⟩) r) (hbel : Below w.heap.size w w') : NextP l B w e w' := by
  subst hr hz
  refine ⟨some ⟨b, o, none⟩, c', ?_, ?_, (fun h => by cases h), hbel⟩ <;> rw [h]
  · exact he
  · exact hb
set_option maxRecDepth 100000 in
set_option maxHeartbeats 2000000 in
theorem next_any (l : List UInt8) (hl : l.length ≤ 100000000) (A : Option Addr) (cap B : Nat) (w : World) (hA : Bs w B A l) (hB : B ≤ w.heap.size) (hcap : l.length ≤ cap) :
    Calls Tryz.prog 79 #[.slice A l.length cap] w (NextP l B w) := by
  by_cases h8 : l.length < 8
  · have e : nextL l = ([], 0, 1) := if_pos h8
    have E := Lib.hid e
    clear hA e
    go_enter Tryz.func79, Tryz.ntmps79
    go_wp2_with fail
    go_ret3
    exact NextP.stop E.out rfl (Below.refl _ _)
  · obtain ⟨b, off, rfl, hb, _⟩ := hA 0 (by omega)
    have HA := Lib.hid hA
    have L0 : Hid ((seg l 0 4).length = 4) := Lib.hid (seg_length (by omega))
    have L4 : Hid ((seg l 4 4).length = 4) := Lib.hid (seg_length (by omega))
    have S0 := Lib.hid (HA.out.seg 0 4); have S4 := Lib.hid (HA.out.seg 4 4)
    have N0 : num (seg l 0 4) < 4294967296 := by have := num_lt (seg l 0 4); rw [L0.out] at this; exact this
    have N4 : num (seg l 4 4) < 4294967296 := by have := num_lt (seg l 4 4); rw [L4.out] at this; exact this
    have Hnx := Lib.hid (show nextL l = _ from if_neg h8)
    clear hA
    go_enter Tryz.func79, Tryz.ntmps79
    go_wp2_with fail
    refine (number_at (seg l 0 4) 4 L0.out.symm (by omega) (by omega) _ _ B w S0.out).mono ?_
    rintro e w1 ⟨rfl, rfl⟩
    go_wp2_with fail
    refine (number_at (seg l 4 4) 4 L4.out.symm (by omega) (by omega) _ _ B w S4.out).mono ?_
    rintro e w1 ⟨rfl, rfl⟩
    clear S0 S4 L0 L4
    generalize num (seg l 0 4) = n at *
    generalize num (seg l 4 4) = m at *
    have hx := not_u32 n N0
    have hsg : IntKind.u32.signed = false := rfl
    have e5 : (m : Int) % 4294967296 = m := by omega
    have e6 : (n : Int) % 4294967296 = n := by omega
    by_cases c1 : m ≠ 4294967295 - n
    · have d1 : ((m : Int) != 4294967295 - (n : Int)) = true := by rw [bne_iff_ne]; omega
      have e : nextL l = ([], 0, 2) := Hnx.out.trans (if_pos (.inl c1))
      have E := Lib.hid e
      clear Hnx e
      go_wp2_with fail
      go_ret3
      exact NextP.stop E.out rfl (Below.refl _ _)
    by_cases c2 : 65536 < n
    · have d1 : ((m : Int) != 4294967295 - (n : Int)) = false := by rw [bne_eq_false_iff_eq]; omega
      have e : nextL l = ([], 0, 2) := Hnx.out.trans (if_pos (.inr c2))
      have E := Lib.hid e
      clear Hnx e
      go_wp2_with fail
      go_ret3
      exact NextP.stop E.out rfl (Below.refl _ _)
    have d1 : ((m : Int) != 4294967295 - (n : Int)) = false := by rw [bne_eq_false_iff_eq]; omega
    have Hnx := Lib.hid (Hnx.out.trans (if_neg (by omega)))
    by_cases c3 : l.length < n + 12
    · have e : nextL l = ([], 0, 1) := Hnx.out.trans (if_pos c3)
      have E := Lib.hid e
      clear Hnx e
      go_wp2_with fail
      go_ret3
      exact NextP.stop E.out rfl (Below.refl _ _)
    have Hnx := Lib.hid (Hnx.out.trans (if_neg c3))
    have L8 : Hid ((seg l 8 n).length = n) := Lib.hid (seg_length (by omega))
    have Lc : Hid ((seg l (8 + n) 4).length = 4) := Lib.hid (seg_length (by omega))
    have S8 : Hid (∀ o, (n ≤ 0 ∨ o = off + 8) → Bs w B (some ⟨b, o, none⟩) (seg l 8 n)) := Lib.hid (fun o ho => by
      rcases ho with ho | rfl
      · have e : seg l 8 n = [] := List.eq_nil_of_length_eq_zero (by rw [L8.out]; omega)
        rw [e]; exact Bs.empty
      · exact HA.out.seg 8 n)
    have Sc : Hid (Bs w B (some ⟨b, off + (n + 8), none⟩) (seg l (8 + n) 4)) := Lib.hid (by have := HA.out.seg (8 + n) 4; rwa [Nat.add_comm 8 n] at this ⊢)
    have Hn8 : Hid (n ≤ 100000000) := Lib.hid (by omega)
    clear N4 c1
    by_cases hn0 : n ≤ 0
    all_goals
      go_wp2_with fail
      have q1 : IntKind.i64.wrap ((n : Int) + 12 - 4) = (n : Int) + 8 := by rw [IntWalk.i64_in _ (by omega)]; omega
      have q2 : ((n : Int) + 12).toNat = n + 12 := by omega
      have q3 : ((n : Int) + 8).toNat = n + 8 := by omega
      have q4 : (0 : Int) ≤ (n : Int) + 12 ∧ (n : Int) + 12 ≤ (cap : Int) := by omega
      have q5 : (0 : Int) ≤ (n : Int) + 8 ∧ (n : Int) + 8 ≤ max ((n : Int) + 12) 0 := by omega
      have q6 : ¬ cap = n + 8 := by omega
      have q7 : n + 12 - (n + 8) = 4 := by omega
      rw [show n + 12 - 4 - 8 = n by omega]
      apply wp_region_rel 10 [.inl _, .inl _, .inr (SlB (beb 4 (check (seg l 8 n)).toNat)), .inl _, .inl _, .inl _, .inl _, .inl _, .inl _, .inl _] (by kernel_rfl) (by kernel_rfl) rfl
      simp only [List.take_succ_cons, List.take_zero, List.drop_succ_cons, List.drop_zero]
      iterate 1 (apply rel_is; (intro W hW hf; go_simp; exact ⟨Stay.refl _ _, rfl⟩); simp only [Act.put, List.setIfInBounds_toArray, List.set_cons_succ, List.set_cons_zero])
      apply rel_is
      · intro W hW hf
        exact rel_call hW rfl (by go_simp <;> first | rfl | exact ⟨rfl, rfl⟩ | exact ⟨rfl, rfl, rfl⟩) ((check_at (seg l 8 n) n L8.out.symm Hn8.out _ _ B W ((S8.out _ (by first | exact Or.inl hn0 | exact Or.inr rfl)).below (hW.mono hB))).mono fun e W' ⟨h1, h2⟩ => ⟨_, h1, h2 ▸ Below.refl _ _, rfl⟩)
      simp only [Act.put, List.setIfInBounds_toArray, List.set_cons_succ, List.set_cons_zero]
      refine rel_fits (fun W hW hf => rel_call hW rfl (by go_simp <;> first | rfl | exact ⟨rfl, rfl⟩ | exact ⟨rfl, rfl, rfl⟩) ((four_any (check (seg l 8 n)).toNat _ rfl (u32_lt _) W).mono fun e W' ⟨v, h1, h2, h3⟩ => ⟨v, h1, h3, SlB.own h2 (beb_length _ _).symm⟩)) (SlB.keeps _) fun v51 => ?_
      simp only [Act.put, List.setIfInBounds_toArray, List.set_cons_succ, List.set_cons_zero]
      iterate 5 (apply rel_is; (intro W hW hf; go_simp; exact ⟨Stay.refl _ _, rfl⟩); simp only [Act.put, List.setIfInBounds_toArray, List.set_cons_succ, List.set_cons_zero])
      apply rel_is
      · intro W hW hf
        have h := hf (51, SlB (beb 4 (check (seg l 8 n)).toNat) v51) (by simp) (by simp [Oper.looksAt, Op.operands, Call.operands])
        exact rel_call hW rfl (by go_simp <;> first | rfl | exact ⟨rfl, rfl⟩ | exact ⟨rfl, rfl, rfl⟩) ((equal_sl _ (seg l (8 + n) 4) v51 _ 4 _ W B h Lc.out.symm (Sc.out.below (hW.mono hB)) (by simp)).mono fun e W' ⟨h1, h2⟩ => ⟨_, h1, h2 ▸ Below.refl _ _, rfl⟩)
      simp only [Act.put, List.setIfInBounds_toArray, List.set_cons_succ, List.set_cons_zero]
      iterate 1 (apply rel_is; (intro W hW hf; go_simp; exact ⟨Stay.refl _ _, rfl⟩); simp only [Act.put, List.setIfInBounds_toArray, List.set_cons_succ, List.set_cons_zero])
      refine rel_end ?_
      intro W hW hf
      refine wpList_nil ?_
      have HW := Lib.hid hW
      clear hW hf q1 q2 q3 q4 q5 q6 q7
      generalize hd : decide (beb 4 (check (seg l 8 n)).toNat = seg l (8 + n) 4) = d
      cases d
      · have E := Lib.hid (Hnx.out.trans (if_pos (fun h => of_decide_eq_false hd h.symm)))
        clear hd Hnx
        go_wp2_with fail
        go_ret3
        exact NextP.stop E.out rfl HW.out
      · have E := Lib.hid (Hnx.out.trans (if_neg (fun h => h (of_decide_eq_true hd).symm)))
        clear hd Hnx
        go_wp2_with fail
        go_ret3
        exact NextP.whole E.out L8.out (by simp) rfl ((S8.out _ (by first | exact Or.inl hn0 | exact Or.inr rfl)).below (HW.out.mono hB)) HW.out
end Go.Proofs.YtegekaocbalndaaGreatDoor
