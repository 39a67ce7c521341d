/- several texts in one: assizeref12.Depends, assizeref14.variable, assizeref13.Wrong., rows of flags, and the closures that rows of them are., assizeref13.Heads. -/
import Derived.Test.YtaalinhkikmfaaaGp
import Derived.Test.YtaalinhkikmfaaaCb
import Derived.Test.YtaalinhkikmfaaaSg
import Derived.Test.YtaalinhkikmfaaaMg10
section
set_option linter.unusedSimpArgs false
set_option linter.unusedVariables false
namespace Go.Proofs.Ytaalinhkikmfaaa
open Go.RowKit

/-- the kinds that are told apart. -/
theorem kind_cases (k : Int) : k = 1 ∨ k = 2 ∨ k = 3 ∨ k = 4 ∨ (k ≠ 1 ∧ k ≠ 2 ∧ k ≠ 3 ∧ k ≠ 4) := by omega
set_option maxRecDepth 100000 in
set_option maxHeartbeats 8000000 in
theorem refdep_any (a b : Ev) (w : World) : Calls Try.prog 48 #[a.v, b.v] w fun e w' => e = .returned (.bool (dpd a b)) ∧ Below w.heap.size w w' := by
  obtain ⟨at_, ak, ao⟩ := a
  obtain ⟨bt, bk, bo⟩ := b
  unfold Ev.v
  have Hd : Hid (dpd ⟨at_, ak, ao⟩ ⟨bt, bk, bo⟩ = (decide (at_ = bt) || (decide (ao = bo) && ((isMx ak && isMx bk) || (isVr ak && isVr bk && decide (ak = 2 ∨ bk = 2)))))) := Lib.hid rfl
  generalize dpd ⟨at_, ak, ao⟩ ⟨bt, bk, bo⟩ = fb at *
  by_cases ht : at_ = bt
  · have d1 : (at_ == bt) = true := by rw [beq_iff_eq]; exact ht
    have He : Hid (fb = true) := Lib.hid (by rw [Hd.out, decide_eq_true ht]; rfl)
    clear ht Hd
    go_enter Try.func48, Try.ntmps48
    go_wp2_with fail
    go_ret
    exact ⟨by rw [He.out]; rfl, ((Below.refl _ _).alloc (Nat.le_refl _) _).alloc (by simp) _⟩
  have d1 : (at_ == bt) = false := by rw [beq_eq_false_iff_ne]; exact ht
  by_cases ho : ao = bo
  · have d2 : (ao != bo) = false := by rw [bne_eq_false_iff_eq]; exact ho
    have He : Hid (fb = ((isMx ak && isMx bk) || (isVr ak && isVr bk && decide (ak = 2 ∨ bk = 2)))) := Lib.hid (by rw [Hd.out, decide_eq_false ht, decide_eq_true ho]; rfl)
    clear ht ho Hd
    rcases kind_cases ak with rfl | rfl | rfl | rfl | ⟨a1, a2, a3, a4⟩ <;> rcases kind_cases bk with rfl | rfl | rfl | rfl | ⟨b1, b2, b3, b4⟩
    all_goals
      try (have x1 : (ak == 1) = false := by rw [beq_eq_false_iff_ne]; exact a1)
      try (have x2 : (ak == 2) = false := by rw [beq_eq_false_iff_ne]; exact a2)
      try (have x3 : (ak == 3) = false := by rw [beq_eq_false_iff_ne]; exact a3)
      try (have x4 : (ak == 4) = false := by rw [beq_eq_false_iff_ne]; exact a4)
      try (have y1 : (bk == 1) = false := by rw [beq_eq_false_iff_ne]; exact b1)
      try (have y2 : (bk == 2) = false := by rw [beq_eq_false_iff_ne]; exact b2)
      try (have y3 : (bk == 3) = false := by rw [beq_eq_false_iff_ne]; exact b3)
      try (have y4 : (bk == 4) = false := by rw [beq_eq_false_iff_ne]; exact b4)
      go_enter Try.func48, Try.ntmps48
      go_wp2_with fail
      go_ret
      exact ⟨ret_bool (by rw [He.out]; simp [isMx, isVr, *]), ((Below.refl _ _).alloc (Nat.le_refl _) _).alloc (by simp) _⟩
  · have d2 : (ao != bo) = true := by rw [bne_iff_ne]; exact ho
    have He : Hid (fb = false) := Lib.hid (by rw [Hd.out, decide_eq_false ht, decide_eq_false ho]; rfl)
    clear ht ho Hd
    go_enter Try.func48, Try.ntmps48
    go_wp2_with fail
    go_ret
    exact ⟨by rw [He.out]; rfl, ((Below.refl _ _).alloc (Nat.le_refl _) _).alloc (by simp) _⟩
set_option maxRecDepth 100000 in
set_option maxHeartbeats 4000000 in
theorem refwrong1_any (l : List Ev) (m : Nat) (hm : m = l.length) (hl : m ≤ 4611686018427387904) (n : Int) (A : Option Addr) (cap B : Nat) (w : World) (hA : Evs w B A l) (hB : B ≤ w.heap.size) :
    Calls Try.prog 54 #[.slice A m cap, .int .i64 n] w fun e w' => e = .returned (.int .i64 (wrongE l n : Nat)) ∧ Below w.heap.size w w' := by
  have HA := Lib.hid hA; have HM := Lib.hid hm
  have HW : Hid (wrongE l n = if n < 1 ∨ 16 < n then 2 else if 1024 < m then 3 else if badL l n then 2 else 0) := Lib.hid (by rw [hm]; rfl)
  clear hA hm
  by_cases h1 : n < 1
  · have He : Hid (wrongE l n = 2) := Lib.hid (by rw [HW.out, if_pos (.inl h1)])
    have d1 : decide (n < 1) = true := decide_eq_true h1
    go_enter Try.func54, Try.ntmps54
    go_wp2_with fail
    go_ret
    exact ⟨by rw [He.out]; rfl, Below.refl _ _⟩
  have d1 : decide (n < 1) = false := decide_eq_false h1
  by_cases h2 : 16 < n
  · have He : Hid (wrongE l n = 2) := Lib.hid (by rw [HW.out, if_pos (.inr h2)])
    have d2 : decide ((16 : Int) < n) = true := decide_eq_true h2
    go_enter Try.func54, Try.ntmps54
    go_wp2_with fail
    go_ret
    exact ⟨by rw [He.out]; rfl, Below.refl _ _⟩
  have d2 : decide ((16 : Int) < n) = false := decide_eq_false h2
  by_cases h3 : 1024 < m
  · have He : Hid (wrongE l n = 3) := Lib.hid (by rw [HW.out, if_neg (by omega), if_pos h3])
    go_enter Try.func54, Try.ntmps54
    go_wp2_with fail
    go_ret
    exact ⟨by rw [He.out]; rfl, Below.refl _ _⟩
  have He : Hid (wrongE l n = if badL l n then 2 else 0) := Lib.hid (by rw [HW.out, if_neg (by omega), if_neg h3])
  clear HW
  go_enter Try.func54, Try.ntmps54
  go_wp2_with fail
  go_loopw [5] (fun i wr => ∃ k : Nat, k ≤ m ∧ i = .int .i64 k ∧ (∀ j, j < k → badE (ev l j) n = false) ∧ Below w.heap.size w wr) (fun i _ => m - (intOf i).toNat)
  case atStart => exact ⟨0, by omega, rfl, fun j h => by omega, Below.refl _ _⟩
  case round =>
    obtain ⟨k, hk, rfl, hj, hb⟩ := hrel
    have Hj := Lib.hid hj; have Hb := Lib.hid hb
    clear hj hb
    by_cases hlt : k < m
    · obtain ⟨b, off, rfl, hbl, c1, _, _⟩ := HA.out k (by rw [← HM.out]; exact hlt)
      have c1 := (Hb.out.cell (p := ⟨b, off + k * 3, none⟩) (Nat.lt_of_lt_of_le hbl hB)).trans c1
      have Hyes : Hid (badE (ev l k) n = true → badL l n = true) := Lib.hid (badL_yes (by rw [← HM.out]; exact hlt))
      have Hno : Hid (badE (ev l k) n = false → ∀ j, j < k + 1 → badE (ev l j) n = false) := Lib.hid (fun h j hjk => by
        by_cases e : j = k
        · subst e; exact h
        · exact Hj.out j (by omega))
      have HE : Hid (badE (ev l k) n = (decide ((ev l k).t < 0) || decide (n ≤ (ev l k).t))) := Lib.hid rfl
      generalize badE (ev l k) n = bd at *
      generalize (ev l k).t = t at *
      by_cases e1 : t < 0
      · have d3 : decide (t < 0) = true := decide_eq_true e1
        have Hn := Lib.hid (Hyes.out (by rw [HE.out, d3]; rfl))
        go_wp2_with fail
        go_ret
        exact ⟨by rw [He.out, Hn.out]; rfl, Hb.out⟩
      · have d3 : decide (t < 0) = false := decide_eq_false e1
        by_cases e2 : n ≤ t
        · have d4 : decide (n ≤ t) = true := decide_eq_true e2
          have Hn := Lib.hid (Hyes.out (by rw [HE.out, d4]; simp))
          go_wp2_with fail
          go_ret
          exact ⟨by rw [He.out, Hn.out]; rfl, Hb.out⟩
        · have d4 : decide (n ≤ t) = false := decide_eq_false e2
          have Hn := Lib.hid (Hno.out (by rw [HE.out, d3, d4]; rfl))
          go_wp2_with fail
          go_roundw
          case rel => exact ⟨k + 1, by omega, by go_num, Hn.out, Hb.out⟩
          case measure => simp [intOf]; omega
    · obtain rfl : k = m := by omega
      have Hn := Lib.hid (badL_no (l := l) (n := n) (by rw [← HM.out]; exact Hj.out))
      go_wp2_with fail
      go_ret
      exact ⟨by rw [He.out, Hn.out]; rfl, Hb.out⟩
theorem refwrong_any (l : List Ev) (m : Nat) (hm : m = l.length) (hl : m ≤ 4611686018427387904) (n : Int) (A : Option Addr) (cap B : Nat) (w : World) (hA : Evs w B A l) (hB : B ≤ w.heap.size) :
    Calls Try.prog 39 #[.slice A m cap, .int .i64 n] w fun e w' => e = .returned (.int .i64 (wrongE l n : Nat)) ∧ Below w.heap.size w w' := by
  have H := Lib.hid (refwrong1_any l m hm hl n A cap B w hA hB)
  clear hA hm
  generalize wrongE l n = er at *
  go_enter Try.func39, Try.ntmps39
  go_wp2_with fail
  with_reducible refine H.out.mono ?_
  rintro e w1 ⟨rfl, hb⟩
  have HB := Lib.hid hb
  clear hb
  go_wp2_with fail
  go_ret
  exact ⟨rfl, HB.out⟩
end Go.Proofs.Ytaalinhkikmfaaa
end

section
set_option linter.unusedSimpArgs false
set_option linter.unusedVariables false
namespace Go.Proofs.Ytaalinhkikmfaaa
open Go.RowKit

theorem EB : El Try.prog 72 4 (.bool false) 1 := ⟨Try.underlying72, by kernel_rfl, rfl⟩
theorem EBB : El Try.prog 70 72 (.slice none 0 0) 24 := ⟨Try.underlying70, by kernel_rfl, rfl⟩
/-- block g is a row of n flags: all else is as it was. -/
structure RowQ (w wr : World) (g n : Nat) (S : Nat → Bool) : Prop where
  grown : w.grownBy wr (some g)
  row : ∃ cur : Array Value, wr.heap[g]? = some (.cells cur 4 (0, 0)) ∧ cur.size = n ∧ ∀ t, t < n → cur[t]? = some (.bool (S t))
theorem RowQ.ext {w wr w' : World} {g n : Nat} {S : Nat → Bool} (h : RowQ w wr g n S) (hb : Below wr.heap.size wr w') : RowQ w w' g n S := by
  obtain ⟨cur, h1, h2⟩ := h.row
  exact ⟨grown_ext h.grown hb, cur, (hb.block g (lt_blk h1)).trans h1, h2⟩
theorem RowQ.congr {w wr : World} {g n : Nat} {S S' : Nat → Bool} (h : RowQ w wr g n S) (hS : ∀ t, t < n → S t = S' t) : RowQ w wr g n S' := by
  obtain ⟨cur, h1, h2, h3⟩ := h.row
  exact ⟨h.grown, cur, h1, h2, fun t ht => by rw [← hS t ht]; exact h3 t ht⟩
theorem RowQ.cell {w wr : World} {g n t : Nat} {S : Nat → Bool} (h : RowQ w wr g n S) (ht : t < n) : wr.cell? ⟨g, t, none⟩ = some (.bool (S t)) ∧ wr.frozen? ⟨g, t, none⟩ = false := by
  obtain ⟨cur, h1, h2, h3⟩ := h.row
  exact ⟨by rw [cell_blk h1]; exact h3 t ht, free_blk h1 _⟩
theorem RowQ.write {w wr : World} {g n t : Nat} {S : Nat → Bool} (z : Bool) (h : RowQ w wr g n S) (ht : t < n) : RowQ w (wr.setCell ⟨g, t, none⟩ (.bool z)) g n (fun s => if s = t then z else S s) := by
  obtain ⟨cur, h1, h2, h3⟩ := h.row
  refine ⟨grown_setCell h.grown rfl _, _, set_blk h1 _ _, by simp [h2], fun s hs => ?_⟩
  have hlt : s < cur.size := by omega
  by_cases e : s = t
  · subst e
    rw [Array.getElem?_setIfInBounds_self_of_lt hlt, if_pos rfl]
  · rw [Array.getElem?_setIfInBounds_ne (by omega), if_neg e]; exact h3 s hs
theorem RowQ.made (w : World) (n : Nat) : RowQ (w.alloc (.cells (Array.replicate n (.bool false)) 4)) (w.alloc (.cells (Array.replicate n (.bool false)) 4)) w.heap.size n (fun _ => false) :=
  ⟨World.grownBy.refl _ _, _, heap_alloc_new _ _, by simp, fun t ht => by simp [ht]⟩
def brow (g n : Nat) : Value := .slice (some ⟨g, 0, none⟩) n n
def bvs (γ ln : Nat → Nat) (m : Nat) : List Value := (List.range m).map fun j => brow (γ j) (ln j)
theorem bvs_succ (γ ln : Nat → Nat) (m : Nat) : bvs γ ln (m + 1) = bvs γ ln m ++ [brow (γ m) (ln m)] := by simp [bvs, List.range_succ]
theorem bvs_congr {γ γ' ln : Nat → Nat} {m : Nat} (h : ∀ j, j < m → γ j = γ' j) : bvs γ ln m = bvs γ' ln m := by
  unfold bvs
  apply List.map_congr_left
  intro j hj
  rw [h j (by simpa using hj)]
theorem bvs_get (γ ln : Nat → Nat) (m j : Nat) (h : j < m) : (bvs γ ln m)[j]? = some (brow (γ j) (ln j)) := by simp [bvs, h]
/-- a slice of rows of flags. -/
def BMat (w : World) (B : Nat) (v : Value) (m : Nat) (ln : Nat → Nat) (S : Nat → Nat → Bool) (γ : Nat → Nat) : Prop :=
  w.ownsRow B 72 1 v m (bvs γ ln m) ∧ ∀ j, j < m → B ≤ γ j ∧ ∃ cur : Array Value, w.heap[γ j]? = some (.cells cur 4 (0, 0)) ∧ cur.size = ln j ∧ ∀ t, t < ln j → cur[t]? = some (.bool (S j t))
theorem BMat.ext {w w' : World} {B m : Nat} {v : Value} {ln γ : Nat → Nat} {S : Nat → Nat → Bool} (h : BMat w B v m ln S γ) (hb : Below w.heap.size w w') : BMat w' B v m ln S γ :=
  ⟨own_below h.1 hb, fun j hj => by
    obtain ⟨h1, cur, h2, h3⟩ := h.2 j hj
    exact ⟨h1, cur, (hb.block _ (lt_blk h2)).trans h2, h3⟩⟩
theorem BMat.turned {w w' : World} {B m g : Nat} {v : Value} {ln γ : Nat → Nat} {S : Nat → Nat → Bool} {cur : Array Value} (h : BMat w B v m ln S γ) (hg : w.heap[g]? = some (.cells cur 4 (0, 0))) (hne : ∀ j, j < m → γ j ≠ g) (hb : w.grownBy w' (some g)) : BMat w' B v m ln S γ :=
  ⟨own_kept_g h.1 hg (by decide) hb, fun j hj => by
    obtain ⟨h1, cur, h2, h3⟩ := h.2 j hj
    exact ⟨h1, cur, (hb.block _ (lt_blk h2) (fun e => hne j hj (by injection e))).trans h2, h3⟩⟩
theorem BMat.row {w : World} {B m j : Nat} {v : Value} {ln γ : Nat → Nat} {S : Nat → Nat → Bool} (h : BMat w B v m ln S γ) (hj : j < m) : ∃ b o c, v = .slice (some ⟨b, o, none⟩) m c ∧ w.cell? ⟨b, o + j, none⟩ = some (.slice (some ⟨γ j, 0, none⟩) (ln j) (ln j)) ∧ ∀ t, t < ln j → w.cell? ⟨γ j, t, none⟩ = some (.bool (S j t)) := by
  obtain ⟨A, c, rfl, hr, _, _⟩ := own_rd h.1
  obtain ⟨b, o, rfl, _, h1⟩ := hr j _ (bvs_get γ ln m j hj)
  obtain ⟨_, cur, h2, h3, h4⟩ := h.2 j hj
  exact ⟨b, o, c, rfl, h1, fun t ht => by rw [cell_blk h2]; exact h4 t ht⟩
theorem BMat.not_row {w : World} {B m : Nat} {v : Value} {ln γ : Nat → Nat} {S : Nat → Nat → Bool} {cur : Array Value} {g : Nat} (h : BMat w B v m ln S γ) (hg : w.heap[g]? = some (.cells cur 4 (0, 0))) : v.ownBlock ≠ some g := by
  rcases h.1.2 with ⟨rfl, _⟩ | ⟨g', cap, cur', rfl, _, hg', _⟩
  · intro e; cases e
  · intro e
    simp only [Value.ownBlock] at e
    injection e with e
    subst e
    rw [hg] at hg'
    injection hg' with h5
    injection h5 with _ h6
    revert h6; decide
theorem BMat.grown {w w' : World} {B m : Nat} {v : Value} {ln γ : Nat → Nat} {S : Nat → Nat → Bool} (h : BMat w B v m ln S γ) (hb : w.grownBy w' v.ownBlock) : ∀ j, j < m → B ≤ γ j ∧ ∃ cur : Array Value, w'.heap[γ j]? = some (.cells cur 4 (0, 0)) ∧ cur.size = ln j ∧ ∀ t, t < ln j → cur[t]? = some (.bool (S j t)) := fun j hj => by
  obtain ⟨h1, cur, h2, h3⟩ := h.2 j hj
  exact ⟨h1, cur, (hb.block _ (lt_blk h2) (fun e => h.not_row h2 e.symm)).trans h2, h3⟩
end Go.Proofs.Ytaalinhkikmfaaa
end

section
set_option linter.unusedSimpArgs false
set_option linter.unusedVariables false
namespace Go.Proofs.Ytaalinhkikmfaaa
open Go.RowKit

set_option maxRecDepth 100000 in
set_option maxHeartbeats 8000000 in
theorem heads_any (l : List Ev) (m : Nat) (hm : m = l.length) (hl : m ≤ 2000) (A : Option Addr) (cap : Nat) (w : World) (hA : Evs w w.heap.size A l) :
    Calls Try.prog 40 #[.slice A m cap] w fun e w' => ∃ v γ, e = .returned v ∧ BMat w' w.heap.size v m (fun j => j) (fun j k => rc (fun a b => dpd (ev l a) (ev l b)) k j) γ ∧ Below w.heap.size w w' := by
  have HA := Lib.hid hA; have HM := Lib.hid hm
  clear hA hm
  obtain ⟨R, hR⟩ : ∃ R, R = (fun a b => dpd (ev l a) (ev l b)) := ⟨_, rfl⟩
  rw [← hR]
  have HR := Lib.hid hR
  clear hR
  go_enter Try.func40, Try.ntmps40
  go_wp2_with fail
  go_loopw [3, 4] (fun ov jv wr => ∃ (j : Nat) (γ : Nat → Nat), j ≤ m ∧ jv = .int .i64 j ∧ BMat wr w.heap.size ov j (fun j => j) (fun j k => rc R k j) γ ∧ Below w.heap.size w wr) (fun _ jv _ => m - (intOf jv).toNat)
  case atStart => exact ⟨0, fun _ => 0, by omega, rfl, ⟨World.ownsRow_nil _ _ _ _, fun j hj => by omega⟩, Below.refl _ _⟩
  case round =>
    obtain ⟨j, γ, hj, rfl, hL, hb⟩ := hrel
    have HL := Lib.hid hL; have HB := Lib.hid hb
    clear hL hb
    by_cases hlt : j < m
    · obtain ⟨Ao, co, rfl, _, _, _⟩ := own_rd HL.out.1
      have hmk := fun W => run_make_el EB (j) (j) (by simp) (by omega) (by omega) W
      go_upto_region 7 with (fail)
      have hbw : w.heap.size ≤ wr.heap.size := HB.out.size
      have HQ0 := Lib.hid (RowQ.made wr (j))
      have HL1 := Lib.hid (HL.out.ext (below_alloc wr (.cells (Array.replicate (j) (.bool false)) 4)))
      have HB1 := Lib.hid (HB.out.trans ((below_alloc wr (.cells (Array.replicate (j) (.bool false)) 4)).mono HB.out.size))
      have HNE : Hid (∀ j', j' < j → γ j' ≠ wr.heap.size) := Lib.hid (fun j' hj' e => by
        obtain ⟨_, cur, h1, _⟩ := HL.out.2 j' hj'
        have := lt_blk h1; omega)
      have hs1 : (wr.alloc (.cells (Array.replicate (j) (.bool false)) 4)).heap.size = wr.heap.size + 1 := by simp
      generalize hge : wr.heap.size = g at *
      generalize wr.alloc (.cells (Array.replicate (j) (.bool false)) 4) = w1 at *
      have HBM : Hid (∀ W, w1.grownBy W (some g) → BMat W w.heap.size (.slice Ao j co) j (fun j => j) (fun j k => rc R k j) γ) := Lib.hid (fun W h => by
        obtain ⟨cur, h1, _⟩ := HQ0.out.row
        exact HL1.out.turned h1 HNE.out h)
      have HBW : Hid (∀ W, w1.grownBy W (some g) → Below w.heap.size w W) := Lib.hid (fun W h => HB1.out.grown h (by omega) (fun k e => by cases e; exact hbw))
      clear HL HB HL1 HB1 hmk hge
      go_loopw [6] (fun iv wq => ∃ t : Nat, t ≤ j ∧ iv = .int .i64 ((t : Int) - 1) ∧ RowQ w1 wq g (j) (dsc R j t)) (fun iv _ => (intOf iv + 1).toNat)
      case atStart => exact ⟨j, Nat.le_refl _, rfl, HQ0.out.congr (fun k _ => (dsc_top R j k).symm)⟩
      case round =>
        obtain ⟨t, ht, hiv, hq⟩ := hrel
        have HQ := Lib.hid hq
        clear hq
        cases t with
        | zero =>
          have hiv2 := hiv.trans (show Value.int .i64 (((0 : Nat) : Int) - 1) = .int .i64 (-1) by congr 1)
          subst hiv2
          clear hiv
          have HX := Lib.hid (HBM.out _ HQ.out.grown)
          have HY := Lib.hid (HBW.out _ HQ.out.grown)
          go_wp2_with (at_builtin; refine wpList_append_one0 EBB rfl (.tmp 56) (.tmp 58) rfl w.heap.size (brow g (j)) rfl _ j (bvs γ (fun j => j) j) rfl HX.out.1 rfl (by omega) (by omega) w (Nat.le_refl _) HY.out ?_; intro v5 w5 h2 h3 h4 h5; clear h5; have O5 := Lib.hid h2; have HB5 := Lib.hid h3; have HG5 := Lib.hid h4; clear h2 h3 h4)
          go_roundw
          case rel =>
            refine ⟨j + 1, fun k => if k = j then g else γ k, by omega, by go_num, ⟨?_, fun j' hj' => ?_⟩, HB5.out⟩
            · rw [bvs_succ, bvs_congr (γ' := γ) (fun k hk => if_neg (by omega)), if_pos rfl]; exact O5.out
            · dsimp only
              by_cases e : j' = j
              · subst e
                obtain ⟨cur, h1, h2, h3⟩ := HQ.out.row
                rw [if_pos rfl]
                exact ⟨hbw, cur, (HG5.out.block _ (lt_blk h1) (fun e => HX.out.not_row h1 e.symm)).trans h1, h2, fun t ht => by rw [← dsc_full]; exact h3 t ht⟩
              · rw [if_neg e]
                exact HX.out.grown HG5.out j' (by omega)
          case measure => simp [intOf] <;> omega
        | succ i =>
          have hiv2 := hiv.trans (show Value.int .i64 (((i + 1 : Nat) : Int) - 1) = .int .i64 (i : Int) by congr 1 <;> omega)
          subst hiv2
          clear hiv
          have hij : i < j := by omega
          have him : i < m := by omega
          obtain ⟨b, off, rfl, hbl, c1, c2, c3⟩ := HA.out i (by rw [← HM.out]; exact him)
          obtain ⟨_, _, e3, _, d1, d2, d3⟩ := HA.out j (by rw [← HM.out]; exact hlt)
          injection e3 with e3; injection e3 with e1 e2; subst e1 e2
          have HC : Hid (∀ W, Below wr.heap.size wr W → W.cell? ⟨b, off + i * 3, none⟩ = some (.int .i64 (ev l i).t) ∧ W.cell? ⟨b, off + i * 3 + 1, none⟩ = some (.int .i64 (ev l i).k) ∧ W.cell? ⟨b, off + i * 3 + 2, none⟩ = some (.int .i64 (ev l i).o) ∧ W.cell? ⟨b, off + j * 3, none⟩ = some (.int .i64 (ev l j).t) ∧ W.cell? ⟨b, off + j * 3 + 1, none⟩ = some (.int .i64 (ev l j).k) ∧ W.cell? ⟨b, off + j * 3 + 2, none⟩ = some (.int .i64 (ev l j).o)) :=
            Lib.hid fun W h => by
              have hB2 := HBW.out _ HQ.out.grown
              have h' := hB2.trans (h.mono hB2.size)
              exact ⟨(h'.cell (p := ⟨b, _, none⟩) hbl).trans c1, (h'.cell (p := ⟨b, _, none⟩) hbl).trans c2, (h'.cell (p := ⟨b, _, none⟩) hbl).trans c3, (h'.cell (p := ⟨b, _, none⟩) hbl).trans d1, (h'.cell (p := ⟨b, _, none⟩) hbl).trans d2, (h'.cell (p := ⟨b, _, none⟩) hbl).trans d3⟩
          clear c1 c2 c3 d1 d2 d3
          have HF := Lib.hid (fun W => refdep_any (ev l i) (ev l j) W)
          have HRv : Hid (R i j = dpd (ev l i) (ev l j)) := Lib.hid (by rw [HR.out])
          simp only [ev_eta] at HF
          generalize dpd (ev l i) (ev l j) = fb at *
          generalize ev l i = ei at *
          generalize ev l j = ej at *
          cases fb
          · go_upto_region 9 with (fail)
            apply wp_region_relH (H := []) 10 [(Sum.inl _ : TT), (Sum.inl _ : TT), (Sum.inl _ : TT), (Sum.inl _ : TT), (Sum.inl _ : TT), (Sum.inl _ : TT), (Sum.inl _ : TT), (Sum.inl _ : TT), (Sum.inl _ : TT), (Sum.inl _ : TT)] (by kernel_rfl) (by kernel_rfl) (fun _ _ _ _ _ h => h) rfl
            simp only [List.take_succ_cons, List.take_zero, List.drop_succ_cons, List.drop_zero]
            iterate 8 (apply rel_isS; (intro W hW hf; obtain ⟨x1, x2, x3, y1, y2, y3⟩ := HC.out W hW; go_simp; first | exact ⟨StayS.refl _ _, rfl⟩ | rfl); simp only [Act.put, List.setIfInBounds_toArray, List.set_cons_succ, List.set_cons_zero])
            apply rel_isS
            · intro W hW hf
              exact rel_callS hW rfl (by go_simp <;> first | rfl | exact ⟨rfl, rfl⟩ | exact ⟨rfl, rfl, rfl⟩) ((HF.out W).mono fun e w'' h => ⟨_, h.1, h.2, rfl⟩)
            simp only [Act.put, List.setIfInBounds_toArray, List.set_cons_succ, List.set_cons_zero]
            iterate 1 (apply rel_isS; (intro W hW hf; go_simp; first | exact ⟨StayS.refl _ _, rfl⟩ | rfl); simp only [Act.put, List.setIfInBounds_toArray, List.set_cons_succ, List.set_cons_zero])
            refine rel_endS ?_
            intro W hW hf
            try simp only [Act.put, List.setIfInBounds_toArray, List.set_cons_succ, List.set_cons_zero]
            have HQW := Lib.hid ((HQ.out.ext hW).congr (S' := dsc R j i) (fun k _ => by rw [dsc_step R j i k hij, HRv.out]; simp))
            clear hW hf
            go_wp2_with fail
            go_roundw
            case rel => exact ⟨i, by omega, by first | rfl | go_num, HQW.out⟩
            case measure => simp [intOf] <;> omega
          · go_upto_region 9 with (fail)
            apply wp_region_relH (H := []) 10 [(Sum.inl _ : TT), (Sum.inl _ : TT), (Sum.inl _ : TT), (Sum.inl _ : TT), (Sum.inl _ : TT), (Sum.inl _ : TT), (Sum.inl _ : TT), (Sum.inl _ : TT), (Sum.inl _ : TT), (Sum.inl _ : TT)] (by kernel_rfl) (by kernel_rfl) (fun _ _ _ _ _ h => h) rfl
            simp only [List.take_succ_cons, List.take_zero, List.drop_succ_cons, List.drop_zero]
            iterate 8 (apply rel_isS; (intro W hW hf; obtain ⟨x1, x2, x3, y1, y2, y3⟩ := HC.out W hW; go_simp; first | exact ⟨StayS.refl _ _, rfl⟩ | rfl); simp only [Act.put, List.setIfInBounds_toArray, List.set_cons_succ, List.set_cons_zero])
            apply rel_isS
            · intro W hW hf
              exact rel_callS hW rfl (by go_simp <;> first | rfl | exact ⟨rfl, rfl⟩ | exact ⟨rfl, rfl, rfl⟩) ((HF.out W).mono fun e w'' h => ⟨_, h.1, h.2, rfl⟩)
            simp only [Act.put, List.setIfInBounds_toArray, List.set_cons_succ, List.set_cons_zero]
            iterate 1 (apply rel_isS; (intro W hW hf; go_simp; first | exact ⟨StayS.refl _ _, rfl⟩ | rfl); simp only [Act.put, List.setIfInBounds_toArray, List.set_cons_succ, List.set_cons_zero])
            refine rel_endS ?_
            intro W hW hf
            try simp only [Act.put, List.setIfInBounds_toArray, List.set_cons_succ, List.set_cons_zero]
            have HQW := Lib.hid (HQ.out.ext hW)
            have HRt : Hid (R i j = true) := Lib.hid HRv.out
            clear hW hf
            refine wpList_nil ?_
            have HS : Hid (∀ k, dsc R j i k = (dsc R j (i + 1) k || (decide (k = i) || rc R k i))) := Lib.hid (fun k => by rw [dsc_step R j i k hij, HRt.out, Bool.true_and])
            generalize hbase : dsc R j (i + 1) = base at *
            obtain ⟨q1, q2⟩ := HQW.out.cell (show i < j by omega)
            have HQ1 := Lib.hid (HQW.out.write true (show i < j by omega))
            go_upto_region 12 with (fail)
            clear q1 q2
            go_loopw [7] (fun kv wk => ∃ s : Nat, s ≤ i ∧ kv = .int .i64 s ∧ RowQ w1 wk g (j) (fun k => (base k || decide (k = i)) || (decide (k < s) && rc R k i))) (fun kv _ => i - (intOf kv).toNat)
            case atStart => exact ⟨0, by omega, rfl, HQ1.out.congr (fun k _ => by by_cases e : k = i <;> simp [e])⟩
            case round =>
              obtain ⟨s, hs, rfl, hq2⟩ := hrel
              have HQ2 := Lib.hid hq2
              clear hq2
              by_cases hlt2 : s < i
              · obtain ⟨q1, q2⟩ := HQ2.out.cell (show s < j by omega)
                obtain ⟨b', o', c', e, m1, m2⟩ := (HBM.out _ HQ2.out.grown).row hij
                injection e with e1 _ e2
                subst e1 e2
                have m3 := m2 s (show s < i by omega)
                have e0 : ((base s || decide (s = i)) || (decide (s < s) && rc R s i)) = base s := by simp [show ¬ s = i by omega]
                rw [e0] at q1
                clear e0 m2
                have HW2 : Hid (∀ z, z = (base s || rc R s i) → RowQ w1 (wr.setCell ⟨g, s, none⟩ (.bool z)) g (j) (fun k => (base k || decide (k = i)) || (decide (k < s + 1) && rc R k i))) := Lib.hid (fun z hz => (HQ2.out.write z (show s < j by omega)).congr (fun k _ => by
                  by_cases e : k = s
                  · subst e; rw [if_pos rfl, hz]; simp [show ¬ k = i by omega]
                  · rw [if_neg e]
                    by_cases e2 : k < s
                    · simp [e2, show k < s + 1 by omega]
                    · simp [e2, show ¬ k < s + 1 by omega]))
                generalize base s = x at *
                generalize rc R s i = y at *
                cases x
                all_goals
                  go_wp2_with fail
                  go_roundw
                  case rel => exact ⟨s + 1, by omega, by go_num, HW2.out _ (by simp)⟩
                  case measure => simp [intOf] <;> omega
              · obtain rfl : s = i := by omega
                have HQ3 := Lib.hid (HQ2.out.congr (S' := dsc R j s) (fun k _ => by
                  rw [HS.out k, ← hbase]
                  by_cases e : k < s
                  · simp [e, Bool.or_assoc]
                  · have : rc R k s = false := by
                      cases h : rc R k s with
                      | false => rfl
                      | true => exact absurd (rc_lt h) e
                    simp [e, this]))
                go_wp2_with fail
                go_roundw
                case rel => exact ⟨s, by omega, by first | rfl | go_num, HQ3.out⟩
                case measure => simp [intOf] <;> omega
    · obtain rfl : j = m := by omega
      go_wp2_with fail
      go_ret
      exact ⟨_, γ, rfl, HL.out, HB.out⟩
end Go.Proofs.Ytaalinhkikmfaaa
end
