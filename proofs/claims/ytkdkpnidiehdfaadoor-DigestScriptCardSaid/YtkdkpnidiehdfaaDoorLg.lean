/- a hash and its clone answer any calls. -/
import Derived.Test.YtkdkpnidiehdfaaDoorDs
import Derived.Test.YtkdkpnidiehdfaaDoorReg
import Derived.Test.YtkdkpnidiehdfaaDoorKqc
import Derived.Test.YtkdkpnidiehdfaaDoorLf
import Derived.Test.YtkdkpnidiehdfaaDoorSm
set_option linter.unusedSimpArgs false
set_option linter.unusedVariables false
namespace Go.Proofs.YtkdkpnidiehdfaaDoor
open Go.RowKit

/-- calls that came in. -/
def Cs1 (w : World) (B : Nat) (A : Option Addr) (cs : List (UInt8 × List UInt8)) : Prop :=
  ∀ i, i < cs.length → ∃ b off Ai ci, A = some ⟨b, off, none⟩ ∧ b < B ∧ w.cell? ⟨b, off + i * 2, none⟩ = some (.int .u8 ((cs.getD i (0, [])).1.toNat : Int)) ∧ w.cell? ⟨b, off + i * 2 + 1, none⟩ = some (.slice Ai (cs.getD i (0, [])).2.length ci) ∧
    Bs w B Ai (cs.getD i (0, [])).2 ∧ (Ai = none → (cs.getD i (0, [])).2 = [])
/-- a message: its bytes lie in rows of bytes. -/
def Mb (w : World) (A : Option Addr) (l : List UInt8) : Prop :=
  ∀ j, j < l.length → ∃ b off cs fr, A = some ⟨b, off, none⟩ ∧ w.heap[b]? = some (.cells cs 5 fr) ∧ w.cell? ⟨b, off + j, none⟩ = some (.int .u8 (l.getD j 0).toNat)
theorem Mb.keep {w w' : World} {A : Option Addr} {l : List UInt8} (h : Mb w A l) (hk : ∀ (b : Nat) (cs : Array Value) (fr : Nat × Nat), w.heap[b]? = some (.cells cs 5 fr) → w'.heap[b]? = w.heap[b]?) : Mb w' A l := fun j hj => by
  obtain ⟨b, off, cs, fr, e, h1, h2⟩ := h j hj
  have hb := hk b cs fr h1
  exact ⟨b, off, cs, fr, e, hb.trans h1, (World.cell?_of_block (w := w) (w' := w') (a := ⟨b, off + j, none⟩) hb).trans h2⟩
theorem lt_some {w : World} {b : Nat} {o : Obj} (h : w.heap[b]? = some o) : b < w.heap.size := (Array.getElem?_eq_some_iff.1 h).1
theorem Mb.below {w w' : World} {A : Option Addr} {l : List UInt8} (h : Mb w A l) (hb : Below w.heap.size w w') : Mb w' A l := h.keep fun b cs fr hc => hb.block b (lt_some hc)
theorem Mb.grown {w w' : World} {A : Option Addr} {l : List UInt8} (h : Mb w A l) {g : Nat} {xs : Array Value} {T : TypeId} {fr : Nat × Nat} (hg : w.heap[g]? = some (.cells xs T fr)) (hT : T ≠ 5) (hb : w.grownBy w' (some g)) : Mb w' A l := h.keep fun b cs fr' hc => hb.block b (lt_some hc) (by
  intro e; injection e with e; subst e; rw [hg] at hc; injection hc with hc; injection hc with _ e2; exact hT e2)
theorem Mb.bs {w : World} {A : Option Addr} {l : List UInt8} (h : Mb w A l) : Bs w w.heap.size A l := fun j hj => by
  obtain ⟨b, off, cs, fr, e, h1, h2⟩ := h j hj
  exact ⟨b, off, e, lt_some h1, h2⟩
def two (x : Nat → Value) : Array Value := #[x 0, x 1]
theorem two_at (x : Nat → Value) (a : Nat) (h : a < 2) : (two x)[a]? = some (x a) := by
  match a, h with
  | 0, _ => rfl
  | 1, _ => rfl
def upd {α : Type} (x : Nat → α) (a : Nat) (v : α) : Nat → α := fun j => if j = a then v else x j
theorem two_set (x : Nat → Value) (a : Nat) (h : a < 2) (v : Value) : (two x).setIfInBounds a v = two (upd x a v) := by
  match a, h with
  | 0, _ => rfl
  | 1, _ => rfl

/-- two hashes and two messages. -/
structure DS (w : World) (p q : Nat) (G : Nat → Nat) (S : Nat → Value) (M : Nat → List UInt8) : Prop where
  hs : w.heap[p]? = some (.cells (two fun j => .pointer (some ⟨G j, 0, none⟩)) 29 (0, 0))
  ms : w.heap[q]? = some (.cells (two S) 22 (0, 0))
  ne : G 0 ≠ G 1
  hash : ∀ j, j < 2 → w.heap[G j]? = some (.cells (HS.init.take_ (M j)).cells 35 (0, 0))
  msg : ∀ j, j < 2 → ∃ A c, S j = .slice A (M j).length c ∧ (A = none → M j = []) ∧ Mb w A (M j)
theorem DS.below {w w' : World} {p q : Nat} {G : Nat → Nat} {S : Nat → Value} {M : Nat → List UInt8} (h : DS w p q G S M) (hb : Below w.heap.size w w') : DS w' p q G S M where
  hs := (hb.block p (lt_some h.hs)).trans h.hs
  ms := (hb.block q (lt_some h.ms)).trans h.ms
  ne := h.ne
  hash := fun j hj => (hb.block _ (lt_some (h.hash j hj))).trans (h.hash j hj)
  msg := fun j hj => by
    obtain ⟨A, c, e, h0, h1⟩ := h.msg j hj
    exact ⟨A, c, e, h0, h1.below hb⟩

theorem blk_ne {w : World} {b g : Nat} {xs ys : Array Value} {T U : TypeId} {fr fr' : Nat × Nat} (hb : w.heap[b]? = some (.cells xs T fr)) (hg : w.heap[g]? = some (.cells ys U fr')) (h : T ≠ U) : b ≠ g := by
  rintro rfl
  rw [hb] at hg
  injection hg with hg
  injection hg with _ e
  exact h e
theorem DS.clone {w : World} {p q : Nat} {G : Nat → Nat} {S : Nat → Value} {M : Nat → List UInt8} (h : DS w p q G S M) {a a2 g' : Nat} (ha : a < 2) (ha2 : a2 < 2) (hne : a ≠ a2) (hg : w.heap[g']? = some (.cells (HS.init.take_ (M a)).cells 35 (0, 0))) (hgn : g' ≠ G a) :
    DS ((w.setCell ⟨p, a2, none⟩ (.pointer (some ⟨g', 0, none⟩))).setCell ⟨q, a2, none⟩ (S a)) p q (upd G a2 g') (upd S a2 (S a)) (upd M a2 (M a)) := by
  have hpq : p ≠ q := blk_ne h.hs h.ms (by decide)
  have other : ∀ b, b ≠ p → b ≠ q → ((w.setCell ⟨p, a2, none⟩ (.pointer (some ⟨g', 0, none⟩))).setCell ⟨q, a2, none⟩ (S a)).heap[b]? = w.heap[b]? := fun b h1 h2 => by
    rw [Below.heap_setCell _ _ _ _ h2, Below.heap_setCell _ _ _ _ h1]
  refine ⟨?_, ?_, ?_, ?_, ?_⟩
  · rw [Below.heap_setCell _ _ _ _ hpq, set_blk h.hs, two_set _ _ ha2]
    refine congrArg (fun x => some (Obj.cells (two x) 29 (0, 0))) (funext fun j => ?_)
    unfold upd
    split <;> rfl
  · have h1 : (w.setCell ⟨p, a2, none⟩ (.pointer (some ⟨g', 0, none⟩))).heap[q]? = some (.cells (two S) 22 (0, 0)) := by
      rw [Below.heap_setCell _ _ _ _ (Ne.symm hpq)]; exact h.ms
    rw [set_blk h1, two_set _ _ ha2]
  · have : (a = 0 ∧ a2 = 1) ∨ (a = 1 ∧ a2 = 0) := by omega
    rcases this with ⟨rfl, rfl⟩ | ⟨rfl, rfl⟩
    · simpa [upd] using Ne.symm hgn
    · simpa [upd] using hgn
  · intro j hj
    by_cases e : j = a2
    · subst e
      simp only [upd, if_true]
      rw [other _ (blk_ne hg h.hs (by decide)) (blk_ne hg h.ms (by decide))]; exact hg
    · simp only [upd, if_neg e]
      rw [other _ (blk_ne (h.hash j hj) h.hs (by decide)) (blk_ne (h.hash j hj) h.ms (by decide))]; exact h.hash j hj
  · intro j hj
    have hk : ∀ A l, Mb w A l → Mb ((w.setCell ⟨p, a2, none⟩ (.pointer (some ⟨g', 0, none⟩))).setCell ⟨q, a2, none⟩ (S a)) A l := fun A l hm => hm.keep fun b cs fr hc => other b (blk_ne hc h.hs (by decide)) (blk_ne hc h.ms (by decide))
    by_cases e : j = a2
    · subst e
      simp only [upd, if_true]
      obtain ⟨A, c, h1, h2, h3⟩ := h.msg a ha
      exact ⟨A, c, h1, h2, hk _ _ h3⟩
    · simp only [upd, if_neg e]
      obtain ⟨A, c, h1, h2, h3⟩ := h.msg j hj
      exact ⟨A, c, h1, h2, hk _ _ h3⟩

theorem Mb.own {w : World} {base n : Nat} {v : Value} {l : List UInt8} (h : w.ownsRow base 5 1 v n (bcells l)) (hn : n = l.length) : ∃ A c, v = .slice A l.length c ∧ (A = none → l = []) ∧ Mb w A l := by
  subst hn
  rcases h.2 with ⟨rfl, h0⟩ | ⟨g, cap, cur, rfl, hb, hg, hnc, hcap, hsz, htk⟩
  · have hl : l = [] := List.eq_nil_of_length_eq_zero h0
    subst hl
    exact ⟨none, 0, rfl, fun _ => rfl, fun j hj => absurd hj (by simp)⟩
  · refine ⟨some ⟨g, 0, none⟩, cap, rfl, (fun h => by cases h), fun j hj => ⟨g, 0, cur, (0, 0), rfl, hg, ?_⟩⟩
    rw [cell_blk hg, Nat.zero_add]
    have h1 : (bcells l)[j]? = some (.int .u8 ((l.getD j 0).toNat : Int)) := by simp [bcells, List.getD_eq_getElem?_getD, hj]
    rw [← htk, List.getElem?_take, if_pos (by omega)] at h1
    simpa using h1
theorem DS.write {w w' : World} {p q : Nat} {G : Nat → Nat} {S : Nat → Value} {M : Nat → List UInt8} (h : DS w p q G S M) {a : Nat} (ha : a < 2) {l : List UInt8} {A' : Option Addr} {c' : Nat} (hq : w'.heap[q]? = some (.cells (two (upd S a (.slice A' (M a ++ l).length c'))) 22 (0, 0)))
    (hg : w'.heap[G a]? = some (.cells (HS.init.take_ (M a ++ l)).cells 35 (0, 0))) (hA : A' = none → M a ++ l = []) (hm : Mb w' A' (M a ++ l)) (hk : ∀ b, b < w.heap.size → b ≠ G a → b ≠ q → w'.heap[b]? = w.heap[b]?) :
    DS w' p q G (upd S a (.slice A' (M a ++ l).length c')) (upd M a (M a ++ l)) := by
  have gne : ∀ j, j < 2 → j ≠ a → G j ≠ G a := fun j hj hja => by
    have : (j = 0 ∧ a = 1) ∨ (j = 1 ∧ a = 0) := by omega
    rcases this with ⟨rfl, rfl⟩ | ⟨rfl, rfl⟩
    · exact h.ne
    · exact Ne.symm h.ne
  refine ⟨?_, hq, h.ne, ?_, ?_⟩
  · rw [hk p (lt_some h.hs) (blk_ne h.hs (h.hash a ha) (by decide)) (blk_ne h.hs h.ms (by decide))]; exact h.hs
  · intro j hj
    by_cases e : j = a
    · subst e
      simp only [upd, if_true]; exact hg
    · simp only [upd, if_neg e]
      rw [hk _ (lt_some (h.hash j hj)) (gne j hj e) (blk_ne (h.hash j hj) h.ms (by decide))]; exact h.hash j hj
  · intro j hj
    by_cases e : j = a
    · subst e
      simp only [upd, if_true]
      exact ⟨A', c', rfl, hA, hm⟩
    · simp only [upd, if_neg e]
      obtain ⟨A, c, h1, h2, h3⟩ := h.msg j hj
      exact ⟨A, c, h1, h2, h3.keep fun b cs fr hc => hk b (lt_some hc) (blk_ne hc (h.hash a ha) (by decide)) (blk_ne hc h.ms (by decide))⟩

set_option maxRecDepth 100000 in
set_option maxHeartbeats 8000000 in
theorem script_walk (cs : List (UInt8 × List UInt8)) (A : Option Addr) (cap : Nat) (w : World) (hA : Cs1 w w.heap.size A cs) (hk : KMem w) :
    Calls Tryd.prog 6 #[.slice A cs.length cap] w fun e w' => e = .returned (.bool true) ∧ Below w.heap.size w w' := by
  have HA := Lib.hid hA; have HK := Lib.hid hk
  have Hrp : Hid (0 < w.heap.size) := Lib.hid (by have := HK.out.pos; omega)
  clear hA hk
  go_enter Tryd.func6, Tryd.ntmps6
  by_cases hn : cs.length ≤ 40
  · go_wp2_with fail
    refine (new_any w).mono ?_
    rintro e w1 ⟨g0, rfl, hg0, hc0, hb1⟩
    have Hg0 := Lib.hid hg0; have Hc0 := Lib.hid hc0; have Hb1 := Lib.hid hb1
    clear hg0 hc0 hb1
    go_wp2_with fail
    refine (new_any w1).mono ?_
    rintro e w2 ⟨g1, rfl, hg1, hc1, hb2⟩
    have Hg1 := Lib.hid hg1; have Hc1 := Lib.hid hc1; have Hb2 := Lib.hid hb2
    clear hg1 hc1 hb2
    go_wp2_with fail
    have hw3 : ∃ w3, w3 = (w2.alloc (.cells #[.pointer (some ⟨g0, 0, none⟩), .pointer (some ⟨g1, 0, none⟩)] 29)).alloc (.cells #[.slice none 0 0, .slice none 0 0] 22) := ⟨_, rfl⟩
    obtain ⟨w3, hw3⟩ := hw3
    rw [← hw3]
    have Hb3 : Hid (Below w2.heap.size w2 w3) := Lib.hid (by subst hw3; exact ((Below.refl _ _).alloc (Nat.le_refl _) _).alloc (by simp) _)
    have Hp3 : Hid (w3.heap[w2.heap.size]? = some (.cells #[.pointer (some ⟨g0, 0, none⟩), .pointer (some ⟨g1, 0, none⟩)] 29 (0, 0))) := Lib.hid (by subst hw3; exact (Below.heap_alloc _ _ _ (by simp)).trans (heap_alloc_new _ _))
    have Hq3 : Hid (w3.heap[w2.heap.size + 1]? = some (.cells #[.slice none 0 0, .slice none 0 0] 22 (0, 0))) := Lib.hid (by subst hw3; exact (congrArg (fun n => (World.alloc _ _).heap[n]?) (by simp)).trans (heap_alloc_new (w2.alloc _) _))
    clear hw3
    have HB3 : Hid (Below w.heap.size w w3) := Lib.hid (Hb1.out.trans ((Hb2.out.mono Hb1.out.size).trans (Hb3.out.mono (Nat.le_trans Hb1.out.size Hb2.out.size))))
    have HK3 : Hid (KMem w3) := Lib.hid (KMem.below HK.out HB3.out HK.out.pos)
    have Hc03 : Hid (w3.heap[g0]? = some (.cells (HS.init.take_ []).cells 35 (0, 0))) := Lib.hid (by
      have h0 := lt_blk Hc0.out; have h2 := Hb2.out.size
      rw [Hb3.out.block _ (by omega), Hb2.out.block _ h0]; exact Hc0.out)
    have Hc13 : Hid (w3.heap[g1]? = some (.cells (HS.init.take_ []).cells 35 (0, 0))) := Lib.hid (by
      rw [Hb3.out.block _ (lt_blk Hc1.out)]; exact Hc1.out)
    have Hne : Hid (g0 ≠ g1) := Lib.hid (by have h0 := lt_blk Hc0.out; have := Hg1.out; omega)
    have Hwp : Hid (w.heap.size ≤ w2.heap.size) := Lib.hid (Nat.le_trans Hb1.out.size Hb2.out.size)
    have Hgg1 : Hid (w.heap.size ≤ g1) := Lib.hid (Nat.le_trans Hb1.out.size Hg1.out)
    generalize hp : w2.heap.size = p at *
    clear hp
    generalize hq : p + 1 = q at *
    have Hwq : Hid (w.heap.size ≤ q) := Lib.hid (by have := Hwp.out; omega)
    clear hq
    go_loopw [5, 6] (fun at_ i wr => ∃ (k a : Nat) (G : Nat → Nat) (S : Nat → Value) (M : Nat → List UInt8), k ≤ cs.length ∧ a < 2 ∧ at_ = .int .i64 a ∧ i = .int .i64 k ∧ DS wr p q G S M ∧ (∀ j, j < 2 → w.heap.size ≤ G j) ∧ (∀ j, j < 2 → (M j).length ≤ 4000 * k) ∧ KMem wr ∧ Below w.heap.size w wr) (fun _ i _ => cs.length - (intOf i).toNat)
    case atStart =>
      refine ⟨0, 0, (fun j => if j = 0 then g0 else g1), (fun _ => .slice none 0 0), (fun _ => []), by omega, by omega, rfl, rfl, ⟨Hp3.out, Hq3.out, by simpa using Hne.out, ?_, ?_⟩, ?_, ?_, HK3.out, HB3.out⟩
      · intro j hj
        obtain rfl | rfl : j = 0 ∨ j = 1 := by omega
        · exact Hc03.out
        · exact Hc13.out
      · intro j hj
        exact ⟨none, 0, rfl, fun _ => rfl, fun j hj => by simp at hj⟩
      · intro j hj
        obtain rfl | rfl : j = 0 ∨ j = 1 := by omega
        · exact Hg0.out
        · exact Hgg1.out
      · intro j hj
        simp
    case round =>
      obtain ⟨k, a, G, S, M, hk, ha, rfl, rfl, hds, hG, hM, hkm, hb⟩ := hrel
      have Hds := Lib.hid hds; have HG := Lib.hid hG; have HM := Lib.hid hM; have Hkm := Lib.hid hkm; have Hb := Lib.hid hb
      clear hds hG hM hkm hb
      by_cases hlt : k < cs.length
      · obtain ⟨b, off, Ai, ci, rfl, hbl, hc1, hc2, hs, hnil⟩ := HA.out k hlt
        have c1 := (Hb.out.cell (p := ⟨b, off + k * 2, none⟩) hbl).trans hc1
        have c2 := (Hb.out.cell (p := ⟨b, off + k * 2 + 1, none⟩) hbl).trans hc2
        have Hs := Lib.hid (hs.below Hb.out); have Hnil := Lib.hid hnil
        clear hc1 hc2 hs hnil
        generalize cs.getD k (0, []) = call at *
        obtain ⟨op, l⟩ := call
        dsimp only at c1 c2 Hs Hnil
        by_cases hl4 : l.length ≤ 4000
        · go_upto_region 12 with (fail)
          have hw4 : ∃ w4, w4 = wr.alloc (.cells #[.int .u8 (op.toNat : Int), .slice Ai l.length ci] 48) := ⟨_, rfl⟩
          obtain ⟨w4, hw4⟩ := hw4
          rw [← hw4]
          have Hc4 : Hid (w4.heap[wr.heap.size]? = some (.cells #[.int .u8 (op.toNat : Int), .slice Ai l.length ci] 48 (0, 0))) := Lib.hid (by subst hw4; exact heap_alloc_new _ _)
          have Hb4 : Hid (Below wr.heap.size wr w4) := Lib.hid (by subst hw4; exact (Below.refl _ _).alloc (Nat.le_refl _) _)
          clear hw4 c1 c2
          have HdsW : Hid (DS w4 p q G S M) := Lib.hid (Hds.out.below Hb4.out)
          have HkW : Hid (KMem w4) := Lib.hid (KMem.below Hkm.out Hb4.out Hkm.out.pos)
          have HbW : Hid (Below w.heap.size w w4) := Lib.hid (Hb.out.trans (Hb4.out.mono Hb.out.size))
          have HMW : Hid (∀ j, j < 2 → (M j).length ≤ 4000 * (k + 1)) := Lib.hid (fun j hj => by have := HM.out j hj; omega)
          have HsW : Hid (Bs w4 w.heap.size Ai l) := Lib.hid (Hs.out.below (Hb4.out.mono Hb.out.size))
          generalize wr.heap.size = cb at *
          have q0 : w4.cell? ⟨cb, 0, none⟩ = some (.int .u8 (op.toNat : Int)) := by rw [cell_blk Hc4.out]; rfl
          have q1 : w4.cell? ⟨p, a, none⟩ = some (.pointer (some ⟨G a, 0, none⟩)) := by
            rw [cell_blk HdsW.out.hs]; exact two_at _ a ha
          by_cases h0 : op.toNat = 0
          · have d0 : decide ((op.toNat : Int) = 0) = true := by simp [h0]
            have Hl9 : Hid (l.length ≤ 100000000) := Lib.hid (by omega)
            have x1 : w4.cell? ⟨cb, 1, none⟩ = some (.slice Ai l.length ci) := by rw [cell_blk Hc4.out]; rfl
            have HsW4 : Hid (Bs w4 w4.heap.size Ai l) := Lib.hid (HsW.out.more HbW.out.size)
            go_wp2_with fail
            refine (lent_bytes l Hl9.out Ai ci w4 HsW4.out).mono ?_
            rintro e w5 ⟨gl, rfl, hgl, hcl, hb5⟩
            have Hgl := Lib.hid hgl; have Hcl := Lib.hid hcl; have Hb5 := Lib.hid hb5
            clear hgl hcl hb5 q0 q1 x1
            have Hds5 : Hid (DS w5 p q G S M) := Lib.hid (HdsW.out.below Hb5.out)
            have Hc5 : Hid (w5.heap[cb]? = some (.cells #[.int .u8 (op.toNat : Int), .slice Ai l.length ci] 48 (0, 0))) := Lib.hid ((Hb5.out.block _ (lt_blk Hc4.out)).trans Hc4.out)
            have y1 : w5.cell? ⟨p, a, none⟩ = some (.pointer (some ⟨G a, 0, none⟩)) := by
              rw [cell_blk Hds5.out.hs]; exact two_at _ a ha
            have Hw64 : Hid ((HS.init.take_ (M a)).wait.length = 64) := Lib.hid (by rw [take_wait]; rfl)
            have Hq5 : Hid ((HS.init.take_ (M a)).n + l.length ≤ 1000000000000) := Lib.hid (by rw [take_n]; have := HM.out a ha; have : HS.init.n = 0 := rfl; omega)
            have Hga4 : Hid (G a < w4.heap.size) := Lib.hid (lt_blk (HdsW.out.hash a ha))
            have Hbn5 : Hid (Bn w5 (G a) (some ⟨gl, 0, none⟩) l) := Lib.hid (fun j hj => by
              obtain ⟨b', off', e, hb', hc'⟩ := (Bs.pre (Bs.blk Hcl.out)) j hj
              injection e with e; injection e with e1 e2; subst e1 e2
              have h1 := Hga4.out; have h2 := Hgl.out
              exact ⟨_, _, rfl, by omega, hb', hc'⟩)
            have Hk5 : Hid (KMem w5) := Lib.hid (KMem.below HkW.out Hb5.out HkW.out.pos)
            have Hgk : Hid (0 < G a) := Lib.hid (by have := Hrp.out; have := HG.out a ha; omega)
            go_wp2_with fail
            refine (write_any _ Hw64.out l Hq5.out (G a) (some ⟨gl, 0, none⟩) (l.length + 3) w5 (Hds5.out.hash a ha) Hbn5.out Hk5.out Hgk.out).mono ?_
            rintro e w6 ⟨rfl, hg6, hgr6⟩
            rw [← take_app] at hg6
            have Hg6 := Lib.hid hg6; have Hgr6 := Lib.hid hgr6
            clear hg6 hgr6 y1
            have Hcb4 : Hid (cb < w4.heap.size) := Lib.hid (lt_blk Hc4.out)
            have Hcbg : Hid (cb ≠ G a) := Lib.hid (blk_ne Hc4.out (HdsW.out.hash a ha) (by decide))
            have Hsz5 : Hid (w4.heap.size ≤ w5.heap.size) := Lib.hid Hb5.out.size
            have Hk46 : Hid (∀ b, b < w4.heap.size → b ≠ G a → w6.heap[b]? = w4.heap[b]?) := Lib.hid (fun b h1 h2 => by
              have := Hsz5.out
              rw [Hgr6.out.block b (by omega) (by intro e; injection e with e; exact h2 e), Hb5.out.block b h1])
            have Hc6 : Hid (w6.heap[cb]? = some (.cells #[.int .u8 (op.toNat : Int), .slice Ai l.length ci] 48 (0, 0))) := Lib.hid ((Hk46.out cb Hcb4.out Hcbg.out).trans Hc4.out)
            have Hgl6 : Hid (w6.heap[gl]? = some (.cells (bcells (l ++ marks l.length)).toArray 5 (0, 0))) := Lib.hid (by
              have h1 := Hga4.out; have h2 := Hgl.out
              rw [Hgr6.out.block gl (lt_blk Hcl.out) (by intro e; injection e with e; omega)]; exact Hcl.out)
            have HB6 : Hid (Below w.heap.size w w6) := Lib.hid ((HbW.out.trans (Hb5.out.mono HbW.out.size)).grown Hgr6.out (Nat.le_trans HbW.out.size Hsz5.out) (by intro k e; injection e with e; have := HG.out a ha; omega))
            have Hs6 : Hid (Bs w6 w6.heap.size Ai l) := Lib.hid ((HsW.out.keep fun b o hb => World.cell?_of_block (w := w4) (w' := w6) (a := ⟨b, o, none⟩) (Hk46.out b (Nat.lt_of_lt_of_le hb HbW.out.size) (by have := HG.out a ha; omega))).more HB6.out.size)
            have z1 : w6.cell? ⟨cb, 1, none⟩ = some (.slice Ai l.length ci) := by rw [cell_blk Hc6.out]; rfl
            go_wp2_with fail
            refine (kept_bytes l Hl9.out Ai ci gl w6 Hs6.out Hgl6.out).mono ?_
            rintro e w7 ⟨rfl, hb7⟩
            have Hb7 := Lib.hid hb7
            clear hb7 z1
            have Ha7 : Hid (Any8 w7 gl (l.length + 3)) := Lib.hid (by
              refine ⟨_, (Hb7.out.block _ (lt_blk Hgl6.out)).trans Hgl6.out, by simp [bcells, marks], fun j hj => ?_⟩
              refine ⟨(((l ++ marks l.length).getD j 0).toNat : Int), ?_⟩
              have hj' : j < (l ++ marks l.length).length := by simp [marks]; omega
              generalize l ++ marks l.length = r at hj' ⊢
              simp [bcells, List.getD_eq_getElem?_getD, hj'])
            go_wp2_with fail
            refine (over_any gl l.length (l.length + 3) (by omega) w7 Ha7.out).mono ?_
            rintro e w8 ⟨rfl, hgr8⟩
            have Hgr8 := Lib.hid hgr8
            clear hgr8
            have Hgl4 : Hid (gl ≠ G a) := Lib.hid (by have h1 := Hga4.out; have h2 := Hgl.out; omega)
            have Hk48 : Hid (∀ b, b < w4.heap.size → b ≠ G a → w8.heap[b]? = w4.heap[b]?) := Lib.hid (fun b h1 h2 => by
              have h3 := Hgl.out; have h4 := Hsz5.out; have h5 := Hgr6.out.size; have h6 := Hb7.out.size
              rw [Hgr8.out.block b (by omega) (by intro e; injection e with e; omega), Hb7.out.block b (by omega), Hk46.out b h1 h2])
            have Hqg : Hid (q ≠ G a) := Lib.hid (blk_ne HdsW.out.ms (HdsW.out.hash a ha) (by decide))
            have Hq8 : Hid (w8.heap[q]? = some (.cells (two S) 22 (0, 0))) := Lib.hid ((Hk48.out q (lt_some HdsW.out.ms) Hqg.out).trans HdsW.out.ms)
            have Hc8 : Hid (w8.heap[cb]? = some (.cells #[.int .u8 (op.toNat : Int), .slice Ai l.length ci] 48 (0, 0))) := Lib.hid ((Hk48.out cb Hcb4.out Hcbg.out).trans Hc4.out)
            have Hg8 : Hid (w8.heap[G a]? = some (.cells (HS.init.take_ (M a ++ l)).cells 35 (0, 0))) := Lib.hid (by
              have h1 := lt_blk Hg6.out
              rw [Hgr8.out.block _ (Nat.lt_of_lt_of_le h1 Hb7.out.size) (by intro e; injection e with e; exact Hgl4.out e.symm), Hb7.out.block _ h1]; exact Hg6.out)
            have HB8 : Hid (Below w.heap.size w w8) := Lib.hid ((HB6.out.trans (Hb7.out.mono HB6.out.size)).grown Hgr8.out (Nat.le_trans HB6.out.size Hb7.out.size) (by intro k e; injection e with e; have := Hgl.out; have := HbW.out.size; omega))
            obtain ⟨Am, cm, hSa, hA0, hmb⟩ := HdsW.out.msg a ha
            have HA0 := Lib.hid hA0
            have HSa := Lib.hid hSa
            have Hmb8 : Hid (Bs w8 w8.heap.size Am (M a)) := Lib.hid ((hmb.keep fun b cs fr hc => Hk48.out b (lt_some hc) (blk_ne hc (HdsW.out.hash a ha) (by decide))).bs)
            have Hs8 : Hid (Bs w8 w.heap.size Ai l) := Lib.hid (HsW.out.keep fun b o hb => World.cell?_of_block (w := w4) (w' := w8) (a := ⟨b, o, none⟩) (Hk48.out b (Nat.lt_of_lt_of_le hb HbW.out.size) (by have := HG.out a ha; omega)))
            have Hlm : Hid ((M a).length ≤ 1000000) := Lib.hid (by have := HM.out a ha; omega)
            have Hw8 : Hid (w.heap.size ≤ w8.heap.size) := Lib.hid HB8.out.size
            clear hSa hA0 hmb
            have t1 : w8.cell? ⟨q, a, none⟩ = some (.slice Am (M a).length cm) := by rw [cell_blk Hq8.out, ← HSa.out]; exact two_at _ a ha
            have t2 : w8.cell? ⟨cb, 1, none⟩ = some (.slice Ai l.length ci) := by rw [cell_blk Hc8.out]; rfl
            have T1 : Hid (∀ W, Below w8.heap.size w8 W → W.cell? ⟨q, a, none⟩ = some (.slice Am (M a).length cm)) := Lib.hid (fun W hW => (hW.cell (p := ⟨q, a, none⟩) (lt_some Hq8.out)).trans t1)
            have T2 : Hid (∀ W, Below w8.heap.size w8 W → W.cell? ⟨cb, 1, none⟩ = some (.slice Ai l.length ci)) := Lib.hid (fun W hW => (hW.cell (p := ⟨cb, 1, none⟩) (lt_some Hc8.out)).trans t2)
            clear t1 t2
            have ha2 : (a : Int) < 2 := by omega
            go_upto_region 20 with (fail)
            apply wp_region_relH (H := [0, 1]) 9 [.inl _, .inl _, .inl _, .inl _, .inl _, .inl _, .inr (OwnR w8.heap.size 5 (M a).length (bcells (M a))), .inl _, .inl _] (by kernel_rfl) (by kernel_rfl) (fun _ _ _ _ _ h => h) rfl
            simp only [List.take_succ_cons, List.take_zero, List.drop_succ_cons, List.drop_zero]
            iterate 6 (apply rel_isS; (intro W hW hf; have hx1 := T1.out W hW; go_simp; exact ⟨StayS.refl _ _, rfl⟩); simp only [Act.put, List.setIfInBounds_toArray, List.set_cons_succ, List.set_cons_zero])
            refine rel_fitsS (fun W hW hf => rel_callS hW rfl (by go_simp <;> first | rfl | exact ⟨rfl, rfl⟩ | exact ⟨rfl, rfl, rfl⟩) ((copy_any (M a) Hlm.out Am cm W ((Hmb8.out.below hW).more hW.size) HA0.out).mono fun e W' ⟨v, h1, h2, h3⟩ => ⟨v, h1, h3, own_base h2 hW.size⟩)) (OwnR.keepsS _ _ _ _) fun v64 => ?_
            simp only [Act.put, List.setIfInBounds_toArray, List.set_cons_succ, List.set_cons_zero]
            iterate 2 (apply rel_isS; (intro W hW hf; have hx1 := T2.out W hW; go_simp; exact ⟨StayS.refl _ _, rfl⟩); simp only [Act.put, List.setIfInBounds_toArray, List.set_cons_succ, List.set_cons_zero])
            refine rel_endS ?_
            intro W hW hf
            try simp only [Act.put, List.setIfInBounds_toArray, List.set_cons_succ, List.set_cons_zero]
            have h64 := hf (64, OwnR w8.heap.size 5 (M a).length (bcells (M a)) v64) (by simp)
            have H64 := Lib.hid h64
            have HW := Lib.hid hW
            have HB9 : Hid (Below w.heap.size w W) := Lib.hid (HB8.out.trans (hW.mono HB8.out.size))
            have HsW8 : Hid (Bs W W.heap.size Ai l) := Lib.hid ((Hs8.out.below (hW.mono Hw8.out)).more HB9.out.size)
            clear h64 hf hW
            refine wpList_append_src E5 rfl (.tmp 64) (.tmp 66) rfl w8.heap.size v64 (M a).length (bcells (M a)) rfl H64.out W.heap.size Ai (bcells l) l.length ci rfl (bcells_length _) HsW8.out.rd (fun h => by rw [Hnil.out h]; rfl) (bcells_one _) (by have := Hlm.out; have := Hl9.out; omega) (by omega) w8 (Nat.le_refl _) HW.out ?_
            intro v9 w9 h2 h3 h4 h5
            clear h4 h5
            obtain ⟨A9, c9, rfl, hA9, hm9⟩ := Mb.own (l := M a ++ l) (by rw [bcells_app]; exact h2) (by simp)
            have HA9 := Lib.hid hA9; have Hm9 := Lib.hid hm9; have H89 := Lib.hid h3
            clear h2 h3 hA9 hm9
            have Hq9 : Hid (w9.heap[q]? = some (.cells (two S) 22 (0, 0))) := Lib.hid ((H89.out.block q (lt_some Hq8.out)).trans Hq8.out)
            have u1 : w9.frozen? ⟨q, a, none⟩ = false := free_blk Hq9.out _
            have u2 : w9.cell? ⟨q, a, none⟩ = some (S a) := by rw [cell_blk Hq9.out]; exact two_at _ a ha
            go_upto_region 30 with (fail)
            generalize hw10 : w9.setCell _ _ = w10
            have Hds10 : Hid (DS w10 p q G (upd S a (.slice A9 (M a ++ l).length c9)) (upd M a (M a ++ l))) := Lib.hid (by
              subst hw10
              refine HdsW.out.write ha ?_ ?_ HA9.out ?_ ?_
              · rw [set_blk Hq9.out, two_set _ _ ha, List.length_append]
              · rw [Below.heap_setCell _ _ _ _ (Ne.symm Hqg.out), H89.out.block _ (lt_some Hg8.out)]; exact Hg8.out
              · exact Hm9.out.keep fun b cs fr hc => by rw [Below.heap_setCell _ _ _ _ (blk_ne hc Hq9.out (by decide))]
              · intro b h1 h2 h3
                have h4 := Hsz5.out; have h5 := Hgr6.out.size; have h6 := Hb7.out.size; have h7 := Hgr8.out.size
                rw [Below.heap_setCell _ _ _ _ h3, H89.out.block b (by omega), Hk48.out b h1 h2])
            have HB10 : Hid (Below w.heap.size w w10) := Lib.hid (by subst hw10; exact (HB8.out.trans (H89.out.mono Hw8.out)).setCell Hwq.out _)
            have Hk10 : Hid (KMem w10) := Lib.hid (KMem.below HK.out HB10.out HK.out.pos)
            have HM10 : Hid (∀ j, j < 2 → (upd M a (M a ++ l) j).length ≤ 4000 * (k + 1)) := Lib.hid (fun j hj => by
              unfold upd; split
              · have := HM.out a ha; simp; omega
              · exact HMW.out j hj)
            clear hw10 u1 u2
            generalize upd S a (.slice A9 (M a ++ l).length c9) = S2 at *
            generalize upd M a (M a ++ l) = M2 at *
            obtain ⟨Am, cm, hSa, hA0, hmb⟩ := Hds10.out.msg a ha
            have HcpE : Hid (∀ W, Below w10.heap.size w10 W → W.cell? ⟨p, a, none⟩ = some (.pointer (some ⟨G a, 0, none⟩))) := Lib.hid (fun W hW => by
              rw [cell_blk (Hds10.out.below hW).hs]; exact two_at _ a ha)
            have HcqE : Hid (∀ W, Below w10.heap.size w10 W → W.cell? ⟨q, a, none⟩ = some (.slice Am (M2 a).length cm)) := Lib.hid (fun W hW => by
              rw [cell_blk (Hds10.out.below hW).ms, ← hSa]; exact two_at _ a ha)
            clear hSa hA0 hmb
            have HwiE : Hid ((HS.init.take_ (M2 a)).wait.length = 64) := Lib.hid (by rw [take_wait]; rfl)
            have HniE : Hid ((HS.init.take_ (M2 a)).n = (M2 a).length) := Lib.hid (by rw [take_n]; exact Nat.zero_add _)
            have HclE : Hid (∀ W, Below w10.heap.size w10 W → Calls Tryd.prog 21 #[.pointer (some ⟨G a, 0, none⟩)] W fun e W' => e = .returned (.int .i64 (M2 a).length) ∧ Below w10.heap.size w10 W') := Lib.hid (fun W hW =>
              (len_any _ _ HwiE.out W ((Hds10.out.below hW).hash a ha)).mono fun e W' ⟨he, hb⟩ => ⟨by rw [he, HniE.out], hb ▸ hW⟩)
            have haE : (a : Int) < 2 := by omega
            have hme : ((M2 a).length : Int) = ((M2 a).length : Int) := rfl
            go_upto_region 30 with (fail)
            refine wp_region_quiet (C := fun W => Below w10.heap.size w10 W) (by kernel_rfl) (by kernel_rfl) (below_drew _) ?_
            iterate 18 (first
              | (refine q_cell rfl _ (.tmp 109) rfl ⟨p, a, none⟩ rfl _ _ HcpE.out Tryd.underlying29 rfl ?_)
              | (refine q_cell rfl _ (.tmp 115) rfl ⟨p, a, none⟩ rfl _ _ HcpE.out Tryd.underlying29 rfl ?_)
              | (refine q_cell rfl _ (.tmp 120) rfl ⟨q, a, none⟩ rfl _ _ HcqE.out Tryd.underlying22 rfl ?_)
              | (refine wpQuiet_step (fun K hK => ?_); go_simp; (first
                  | (refine ⟨_, fun _ _ => rfl, hK _ ?_⟩)
                  | (refine ⟨_, fun _ _ => (by simp only [if_pos haE]; exact ⟨rfl, rfl⟩), hK _ ?_⟩)
                  | (refine ⟨_, HclE.out, hK _ ?_⟩)); clear hK K))
            refine wpQuiet_nil ?_
            intro W2 hW2
            have HW2 := Lib.hid hW2
            clear hW2
            go_wp2_with fail
            go_roundw
            case rel => exact ⟨k + 1, a, G, S2, M2, by omega, ha, by go_num, by go_num, Hds10.out.below HW2.out, HG.out, HM10.out, KMem.below Hk10.out HW2.out Hk10.out.pos, HB10.out.trans (HW2.out.mono HB10.out.size)⟩
            case measure => simp [intOf]; omega
          · have d0 : decide ((op.toNat : Int) = 0) = false := by simp; omega
            by_cases h1 : op.toNat = 1
            · have d1 : decide ((op.toNat : Int) = 1) = true := by simp [h1]
              have Hcp : Hid (∀ W, Below w4.heap.size w4 W → W.cell? ⟨p, a, none⟩ = some (.pointer (some ⟨G a, 0, none⟩))) := Lib.hid (fun W hW => by
                rw [cell_blk (HdsW.out.below hW).hs]; exact two_at _ a ha)
              have Hcq : Hid (∀ W, Below w4.heap.size w4 W → W.cell? ⟨q, a, none⟩ = some (S a)) := Lib.hid (fun W hW => by
                rw [cell_blk (HdsW.out.below hW).ms]; exact two_at _ a ha)
              obtain ⟨Am, cm, hSa, hA0, hmb⟩ := HdsW.out.msg a ha
              rw [hSa] at Hcq
              have Hl5 : Hid ((M a).length ≤ 160000) := Lib.hid (by have := HM.out a ha; omega)
              have Hwi : Hid ((HS.init.take_ (M a)).wait.length = 64) := Lib.hid (by rw [take_wait]; rfl)
              have Hni : Hid ((HS.init.take_ (M a)).n = (M a).length) := Lib.hid (by rw [take_n]; exact Nat.zero_add _)
              have Hcs : Hid (∀ W, Below w4.heap.size w4 W → Calls Tryd.prog 20 #[.pointer (some ⟨G a, 0, none⟩)] W fun e W' => e = .returned (dg (sha (M a))) ∧ Below w4.heap.size w4 W') := Lib.hid (fun W hW =>
                (sum_dig _ Hwi.out (by rw [Hni.out]; have := Hl5.out; omega) (G a) W ((HdsW.out.below hW).hash a ha) (KMem.below HkW.out hW HkW.out.pos)).mono fun e W' ⟨he, hb⟩ => ⟨by rw [he, finish_sha], hW.trans (hb.mono hW.size)⟩)
              have Hcr : Hid (∀ W, Below w4.heap.size w4 W → Calls Tryd.prog 17 #[.slice Am (M a).length cm] W fun e W' => e = .returned (dg (sha (M a))) ∧ Below w4.heap.size w4 W') := Lib.hid (fun W hW =>
                (sum_ref (M a) (by have := Hl5.out; omega) Am cm hA0 W (hmb.below hW).bs).mono fun e W' ⟨he, hb⟩ => ⟨he, hW.trans (hb.mono hW.size)⟩)
              have e1 : ∀ W, (binOp .neq 25 (dg (sha (M a))) (dg (sha (M a)))).run Tryd.prog W = .ok (.bool false) W := fun W => by
                have := neq_dig (sha (M a)) (sha (M a)) (sha_length _) (sha_length _) W; simpa using this
              clear hA0 hmb hSa
              generalize sha (M a) = dd at *
              have ha2 : (a : Int) < 2 := by omega
              go_upto_region 22 with (fail)
              refine wp_region_quiet (C := fun W => Below w4.heap.size w4 W) (by kernel_rfl) (by kernel_rfl) (below_drew _) ?_
              iterate 11 (first
                | (refine q_cell rfl _ (.tmp 73) rfl ⟨p, a, none⟩ rfl _ _ Hcp.out Tryd.underlying29 rfl ?_)
                | (refine q_cell rfl _ (.tmp 78) rfl ⟨q, a, none⟩ rfl _ _ Hcq.out Tryd.underlying22 rfl ?_)
                | (refine wpQuiet_step (fun K hK => ?_); go_simp; (first
                    | (refine ⟨_, fun _ _ => rfl, hK _ ?_⟩)
                    | (refine ⟨_, fun _ _ => (by simp only [if_pos ha2]; exact ⟨rfl, rfl⟩), hK _ ?_⟩)
                    | (refine ⟨_, Hcs.out, hK _ ?_⟩) | (refine ⟨_, Hcr.out, hK _ ?_⟩)); clear hK K))
              refine wpQuiet_nil ?_
              intro w5 hw5
              have Hds5 : Hid (DS w5 p q G S M) := Lib.hid (HdsW.out.below hw5)
              have Hk5 : Hid (KMem w5) := Lib.hid (KMem.below HkW.out hw5 HkW.out.pos)
              have Hb5 : Hid (Below w.heap.size w w5) := Lib.hid (HbW.out.trans (hw5.mono HbW.out.size))
              clear hw5 e1 q0 q1 Hcp Hcq Hcs Hcr
              obtain ⟨Am, cm, hSa, hA0, hmb⟩ := Hds5.out.msg a ha
              have HcpE : Hid (∀ W, Below w5.heap.size w5 W → W.cell? ⟨p, a, none⟩ = some (.pointer (some ⟨G a, 0, none⟩))) := Lib.hid (fun W hW => by
                rw [cell_blk (Hds5.out.below hW).hs]; exact two_at _ a ha)
              have HcqE : Hid (∀ W, Below w5.heap.size w5 W → W.cell? ⟨q, a, none⟩ = some (.slice Am (M a).length cm)) := Lib.hid (fun W hW => by
                rw [cell_blk (Hds5.out.below hW).ms, ← hSa]; exact two_at _ a ha)
              clear hSa hA0 hmb
              have HwiE : Hid ((HS.init.take_ (M a)).wait.length = 64) := Lib.hid (by rw [take_wait]; rfl)
              have HniE : Hid ((HS.init.take_ (M a)).n = (M a).length) := Lib.hid (by rw [take_n]; exact Nat.zero_add _)
              have HclE : Hid (∀ W, Below w5.heap.size w5 W → Calls Tryd.prog 21 #[.pointer (some ⟨G a, 0, none⟩)] W fun e W' => e = .returned (.int .i64 (M a).length) ∧ Below w5.heap.size w5 W') := Lib.hid (fun W hW =>
                (len_any _ _ HwiE.out W ((Hds5.out.below hW).hash a ha)).mono fun e W' ⟨he, hb⟩ => ⟨by rw [he, HniE.out], hb ▸ hW⟩)
              have haE2 : (a : Int) < 2 := by omega
              have hme : ((M a).length : Int) = ((M a).length : Int) := rfl
              go_upto_region 30 with (fail)
              refine wp_region_quiet (C := fun W => Below w5.heap.size w5 W) (by kernel_rfl) (by kernel_rfl) (below_drew _) ?_
              iterate 18 (first
                | (refine q_cell rfl _ (.tmp 109) rfl ⟨p, a, none⟩ rfl _ _ HcpE.out Tryd.underlying29 rfl ?_)
                | (refine q_cell rfl _ (.tmp 115) rfl ⟨p, a, none⟩ rfl _ _ HcpE.out Tryd.underlying29 rfl ?_)
                | (refine q_cell rfl _ (.tmp 120) rfl ⟨q, a, none⟩ rfl _ _ HcqE.out Tryd.underlying22 rfl ?_)
                | (refine wpQuiet_step (fun K hK => ?_); go_simp; (first
                    | (refine ⟨_, fun _ _ => rfl, hK _ ?_⟩)
                    | (refine ⟨_, fun _ _ => (by simp only [if_pos haE2]; exact ⟨rfl, rfl⟩), hK _ ?_⟩)
                    | (refine ⟨_, HclE.out, hK _ ?_⟩)); clear hK K))
              refine wpQuiet_nil ?_
              intro W2 hW2
              have HW2 := Lib.hid hW2
              clear hW2
              go_wp2_with fail
              go_roundw
              case rel => exact ⟨k + 1, a, G, S, M, by omega, ha, by go_num, by go_num, Hds5.out.below HW2.out, HG.out, HMW.out, KMem.below Hk5.out HW2.out Hk5.out.pos, Hb5.out.trans (HW2.out.mono Hb5.out.size)⟩
              case measure => simp [intOf]; omega
            · have d1 : decide ((op.toNat : Int) = 1) = false := by simp; omega
              by_cases h2 : op.toNat = 2
              · have d2 : decide ((op.toNat : Int) = 2) = true := by simp [h2]
                obtain ⟨a2, hl2, ha3, hne⟩ : ∃ a2 : Nat, a2 < 2 ∧ (1 - (a : Int)) = (a2 : Int) ∧ a ≠ a2 := ⟨1 - a, by omega, by omega, by omega⟩
                have Hw64 : Hid ((HS.init.take_ (M a)).wait.length = 64) := Lib.hid (by rw [take_wait]; rfl)
                go_wp2_with fail
                refine (clone_any _ Hw64.out (G a) w4 (HdsW.out.hash a ha)).mono ?_
                rintro e w5 ⟨g', rfl, hg', hc5, hb5⟩
                have Hg' := Lib.hid hg'; have Hc5 := Lib.hid hc5; have Hb5 := Lib.hid hb5
                clear hg' hc5 hb5
                have Hds5 : Hid (DS w5 p q G S M) := Lib.hid (HdsW.out.below Hb5.out)
                have r1 : w5.cell? ⟨p, a2, none⟩ = some (.pointer (some ⟨G a2, 0, none⟩)) := by
                  rw [cell_blk Hds5.out.hs]; exact two_at _ a2 hl2
                have r2 : w5.frozen? ⟨p, a2, none⟩ = false := free_blk Hds5.out.hs _
                clear q0 q1
                have ha2' : (a2 : Int) < 2 := by omega
                go_upto_region 26 with (fail)
                generalize hw6 : w5.setCell _ _ = w6
                have Hpq : Hid (p ≠ q) := Lib.hid (blk_ne Hds5.out.hs Hds5.out.ms (by decide))
                have H6q : Hid (w6.heap[q]? = some (.cells (two S) 22 (0, 0))) := Lib.hid (by subst hw6; rw [Below.heap_setCell _ _ _ _ (Ne.symm Hpq.out)]; exact Hds5.out.ms)
                have Hw6 := Lib.hid hw6
                clear hw6 r1 r2
                obtain ⟨Ah, ch, hSh, _, _⟩ := HdsW.out.msg a ha
                have HSh := Lib.hid hSh
                clear hSh
                have s1 : w6.cell? ⟨q, a, none⟩ = some (.slice Ah (M a).length ch) := by rw [cell_blk H6q.out, ← HSh.out]; exact two_at _ a ha
                have s2 : w6.cell? ⟨q, a2, none⟩ = some (S a2) := by rw [cell_blk H6q.out]; exact two_at _ a2 hl2
                have s3 : w6.frozen? ⟨q, a2, none⟩ = false := free_blk H6q.out _
                go_upto_region 27 with (fail)
                generalize hw7 : w6.setCell _ _ = w7
                have Hds7 : Hid (DS w7 p q (upd G a2 g') (upd S a2 (S a)) (upd M a2 (M a))) := Lib.hid (by
                  subst hw7; rw [← Hw6.out, ← HSh.out]
                  exact Hds5.out.clone ha hl2 hne Hc5.out (by have h1 := lt_blk (HdsW.out.hash a ha); have h2 := Hg'.out; omega))
                have Hb7 : Hid (Below w.heap.size w w7) := Lib.hid (by
                  subst hw7; rw [← Hw6.out]
                  exact ((HbW.out.trans (Hb5.out.mono HbW.out.size)).setCell Hwp.out _).setCell Hwq.out _)
                have Hk7 : Hid (KMem w7) := Lib.hid (KMem.below HK.out Hb7.out HK.out.pos)
                have HG7 : Hid (∀ j, j < 2 → w.heap.size ≤ upd G a2 g' j) := Lib.hid (fun j hj => by
                  unfold upd; split
                  · exact Nat.le_trans HbW.out.size Hg'.out
                  · exact HG.out j hj)
                have HM7 : Hid (∀ j, j < 2 → (upd M a2 (M a) j).length ≤ 4000 * (k + 1)) := Lib.hid (fun j hj => by
                  unfold upd; split
                  · exact HMW.out a ha
                  · exact HMW.out j hj)
                clear hw7 s1 s2 s3
                generalize upd G a2 g' = G2 at *
                generalize upd S a2 (S a) = S2 at *
                generalize upd M a2 (M a) = M2 at *
                obtain ⟨Am, cm, hSa, hA0, hmb⟩ := Hds7.out.msg a2 hl2
                have HcpE : Hid (∀ W, Below w7.heap.size w7 W → W.cell? ⟨p, a2, none⟩ = some (.pointer (some ⟨G2 a2, 0, none⟩))) := Lib.hid (fun W hW => by
                  rw [cell_blk (Hds7.out.below hW).hs]; exact two_at _ a2 hl2)
                have HcqE : Hid (∀ W, Below w7.heap.size w7 W → W.cell? ⟨q, a2, none⟩ = some (.slice Am (M2 a2).length cm)) := Lib.hid (fun W hW => by
                  rw [cell_blk (Hds7.out.below hW).ms, ← hSa]; exact two_at _ a2 hl2)
                clear hSa hA0 hmb
                have HwiE : Hid ((HS.init.take_ (M2 a2)).wait.length = 64) := Lib.hid (by rw [take_wait]; rfl)
                have HniE : Hid ((HS.init.take_ (M2 a2)).n = (M2 a2).length) := Lib.hid (by rw [take_n]; exact Nat.zero_add _)
                have HclE : Hid (∀ W, Below w7.heap.size w7 W → Calls Tryd.prog 21 #[.pointer (some ⟨G2 a2, 0, none⟩)] W fun e W' => e = .returned (.int .i64 (M2 a2).length) ∧ Below w7.heap.size w7 W') := Lib.hid (fun W hW =>
                  (len_any _ _ HwiE.out W ((Hds7.out.below hW).hash a2 hl2)).mono fun e W' ⟨he, hb⟩ => ⟨by rw [he, HniE.out], hb ▸ hW⟩)
                have haE2 : (a2 : Int) < 2 := by omega
                have hme : ((M2 a2).length : Int) = ((M2 a2).length : Int) := rfl
                go_upto_region 30 with (fail)
                refine wp_region_quiet (C := fun W => Below w7.heap.size w7 W) (by kernel_rfl) (by kernel_rfl) (below_drew _) ?_
                iterate 18 (first
                  | (refine q_cell rfl _ (.tmp 109) rfl ⟨p, a2, none⟩ rfl _ _ HcpE.out Tryd.underlying29 rfl ?_)
                  | (refine q_cell rfl _ (.tmp 115) rfl ⟨p, a2, none⟩ rfl _ _ HcpE.out Tryd.underlying29 rfl ?_)
                  | (refine q_cell rfl _ (.tmp 120) rfl ⟨q, a2, none⟩ rfl _ _ HcqE.out Tryd.underlying22 rfl ?_)
                  | (refine wpQuiet_step (fun K hK => ?_); go_simp; (first
                      | (refine ⟨_, fun _ _ => rfl, hK _ ?_⟩)
                      | (refine ⟨_, fun _ _ => (by simp only [if_pos haE2]; exact ⟨rfl, rfl⟩), hK _ ?_⟩)
                      | (refine ⟨_, HclE.out, hK _ ?_⟩)); clear hK K))
                refine wpQuiet_nil ?_
                intro W2 hW2
                have HW2 := Lib.hid hW2
                clear hW2
                go_wp2_with fail
                go_roundw
                case rel => exact ⟨k + 1, a2, G2, S2, M2, by omega, hl2, by go_num, by go_num, Hds7.out.below HW2.out, HG7.out, HM7.out, KMem.below Hk7.out HW2.out Hk7.out.pos, Hb7.out.trans (HW2.out.mono Hb7.out.size)⟩
                case measure => simp [intOf]; omega
              · have d2 : decide ((op.toNat : Int) = 2) = false := by simp; omega
                by_cases h3 : op.toNat = 3
                · have d3 : decide ((op.toNat : Int) = 3) = true := by simp [h3]
                  obtain ⟨a2, hl2, ha3⟩ : ∃ a2 : Nat, a2 < 2 ∧ (1 - (a : Int)) = (a2 : Int) := ⟨1 - a, by omega, by omega⟩
                  go_upto_region 30 with (fail)
                  obtain ⟨Am, cm, hSa, hA0, hmb⟩ := HdsW.out.msg a2 hl2
                  have HcpE : Hid (∀ W, Below w4.heap.size w4 W → W.cell? ⟨p, a2, none⟩ = some (.pointer (some ⟨G a2, 0, none⟩))) := Lib.hid (fun W hW => by
                    rw [cell_blk (HdsW.out.below hW).hs]; exact two_at _ a2 hl2)
                  have HcqE : Hid (∀ W, Below w4.heap.size w4 W → W.cell? ⟨q, a2, none⟩ = some (.slice Am (M a2).length cm)) := Lib.hid (fun W hW => by
                    rw [cell_blk (HdsW.out.below hW).ms, ← hSa]; exact two_at _ a2 hl2)
                  clear hSa hA0 hmb
                  have HwiE : Hid ((HS.init.take_ (M a2)).wait.length = 64) := Lib.hid (by rw [take_wait]; rfl)
                  have HniE : Hid ((HS.init.take_ (M a2)).n = (M a2).length) := Lib.hid (by rw [take_n]; exact Nat.zero_add _)
                  have HclE : Hid (∀ W, Below w4.heap.size w4 W → Calls Tryd.prog 21 #[.pointer (some ⟨G a2, 0, none⟩)] W fun e W' => e = .returned (.int .i64 (M a2).length) ∧ Below w4.heap.size w4 W') := Lib.hid (fun W hW =>
                    (len_any _ _ HwiE.out W ((HdsW.out.below hW).hash a2 hl2)).mono fun e W' ⟨he, hb⟩ => ⟨by rw [he, HniE.out], hb ▸ hW⟩)
                  have haE2 : (a2 : Int) < 2 := by omega
                  have hme : ((M a2).length : Int) = ((M a2).length : Int) := rfl
                  go_upto_region 30 with (fail)
                  refine wp_region_quiet (C := fun W => Below w4.heap.size w4 W) (by kernel_rfl) (by kernel_rfl) (below_drew _) ?_
                  iterate 18 (first
                    | (refine q_cell rfl _ (.tmp 109) rfl ⟨p, a2, none⟩ rfl _ _ HcpE.out Tryd.underlying29 rfl ?_)
                    | (refine q_cell rfl _ (.tmp 115) rfl ⟨p, a2, none⟩ rfl _ _ HcpE.out Tryd.underlying29 rfl ?_)
                    | (refine q_cell rfl _ (.tmp 120) rfl ⟨q, a2, none⟩ rfl _ _ HcqE.out Tryd.underlying22 rfl ?_)
                    | (refine wpQuiet_step (fun K hK => ?_); go_simp; (first
                        | (refine ⟨_, fun _ _ => rfl, hK _ ?_⟩)
                        | (refine ⟨_, fun _ _ => (by simp only [if_pos haE2]; exact ⟨rfl, rfl⟩), hK _ ?_⟩)
                        | (refine ⟨_, HclE.out, hK _ ?_⟩)); clear hK K))
                  refine wpQuiet_nil ?_
                  intro W2 hW2
                  have HW2 := Lib.hid hW2
                  clear hW2
                  go_wp2_with fail
                  go_roundw
                  case rel => exact ⟨k + 1, a2, G, S, M, by omega, hl2, by go_num, by go_num, HdsW.out.below HW2.out, HG.out, HMW.out, KMem.below HkW.out HW2.out HkW.out.pos, HbW.out.trans (HW2.out.mono HbW.out.size)⟩
                  case measure => simp [intOf]; omega
                · have d3 : decide ((op.toNat : Int) = 3) = false := by simp; omega
                  obtain ⟨Am, cm, hSa, hA0, hmb⟩ := HdsW.out.msg a ha
                  have HcpE : Hid (∀ W, Below w4.heap.size w4 W → W.cell? ⟨p, a, none⟩ = some (.pointer (some ⟨G a, 0, none⟩))) := Lib.hid (fun W hW => by
                    rw [cell_blk (HdsW.out.below hW).hs]; exact two_at _ a ha)
                  have HcqE : Hid (∀ W, Below w4.heap.size w4 W → W.cell? ⟨q, a, none⟩ = some (.slice Am (M a).length cm)) := Lib.hid (fun W hW => by
                    rw [cell_blk (HdsW.out.below hW).ms, ← hSa]; exact two_at _ a ha)
                  clear hSa hA0 hmb
                  have HwiE : Hid ((HS.init.take_ (M a)).wait.length = 64) := Lib.hid (by rw [take_wait]; rfl)
                  have HniE : Hid ((HS.init.take_ (M a)).n = (M a).length) := Lib.hid (by rw [take_n]; exact Nat.zero_add _)
                  have HclE : Hid (∀ W, Below w4.heap.size w4 W → Calls Tryd.prog 21 #[.pointer (some ⟨G a, 0, none⟩)] W fun e W' => e = .returned (.int .i64 (M a).length) ∧ Below w4.heap.size w4 W') := Lib.hid (fun W hW =>
                    (len_any _ _ HwiE.out W ((HdsW.out.below hW).hash a ha)).mono fun e W' ⟨he, hb⟩ => ⟨by rw [he, HniE.out], hb ▸ hW⟩)
                  have haE2 : (a : Int) < 2 := by omega
                  have hme : ((M a).length : Int) = ((M a).length : Int) := rfl
                  go_upto_region 30 with (fail)
                  refine wp_region_quiet (C := fun W => Below w4.heap.size w4 W) (by kernel_rfl) (by kernel_rfl) (below_drew _) ?_
                  iterate 18 (first
                    | (refine q_cell rfl _ (.tmp 109) rfl ⟨p, a, none⟩ rfl _ _ HcpE.out Tryd.underlying29 rfl ?_)
                    | (refine q_cell rfl _ (.tmp 115) rfl ⟨p, a, none⟩ rfl _ _ HcpE.out Tryd.underlying29 rfl ?_)
                    | (refine q_cell rfl _ (.tmp 120) rfl ⟨q, a, none⟩ rfl _ _ HcqE.out Tryd.underlying22 rfl ?_)
                    | (refine wpQuiet_step (fun K hK => ?_); go_simp; (first
                        | (refine ⟨_, fun _ _ => rfl, hK _ ?_⟩)
                        | (refine ⟨_, fun _ _ => (by simp only [if_pos haE2]; exact ⟨rfl, rfl⟩), hK _ ?_⟩)
                        | (refine ⟨_, HclE.out, hK _ ?_⟩)); clear hK K))
                  refine wpQuiet_nil ?_
                  intro W2 hW2
                  have HW2 := Lib.hid hW2
                  clear hW2
                  go_wp2_with fail
                  go_roundw
                  case rel => exact ⟨k + 1, a, G, S, M, by omega, ha, by go_num, by go_num, HdsW.out.below HW2.out, HG.out, HMW.out, KMem.below HkW.out HW2.out HkW.out.pos, HbW.out.trans (HW2.out.mono HbW.out.size)⟩
                  case measure => simp [intOf]; omega
        · go_wp2_with fail
          go_ret
          exact ⟨rfl, Hb.out.alloc Hb.out.size _⟩
      · obtain rfl : k = cs.length := by omega
        have Hcp : Hid (∀ W, Below wr.heap.size wr W → W.cell? ⟨p, a, none⟩ = some (.pointer (some ⟨G a, 0, none⟩))) := Lib.hid (fun W hW => by
          rw [cell_blk (Hds.out.below hW).hs]; exact two_at _ a ha)
        have Hcq : Hid (∀ W, Below wr.heap.size wr W → W.cell? ⟨q, a, none⟩ = some (S a)) := Lib.hid (fun W hW => by
          rw [cell_blk (Hds.out.below hW).ms]; exact two_at _ a ha)
        obtain ⟨Am, cm, hSa, hA0, hmb⟩ := Hds.out.msg a ha
        rw [hSa] at Hcq
        have Hl5 : Hid ((M a).length ≤ 160000) := Lib.hid (by have := HM.out a ha; omega)
        have Hwi : Hid ((HS.init.take_ (M a)).wait.length = 64) := Lib.hid (by rw [take_wait]; rfl)
        have Hni : Hid ((HS.init.take_ (M a)).n = (M a).length) := Lib.hid (by rw [take_n]; exact Nat.zero_add _)
        have Hcs : Hid (∀ W, Below wr.heap.size wr W → Calls Tryd.prog 20 #[.pointer (some ⟨G a, 0, none⟩)] W fun e W' => e = .returned (dg (sha (M a))) ∧ Below wr.heap.size wr W') := Lib.hid (fun W hW =>
          (sum_dig _ Hwi.out (by rw [Hni.out]; have := Hl5.out; omega) (G a) W ((Hds.out.below hW).hash a ha) (KMem.below Hkm.out hW Hkm.out.pos)).mono fun e W' ⟨he, hb⟩ => ⟨by rw [he, finish_sha], hW.trans (hb.mono hW.size)⟩)
        have Hcr : Hid (∀ W, Below wr.heap.size wr W → Calls Tryd.prog 17 #[.slice Am (M a).length cm] W fun e W' => e = .returned (dg (sha (M a))) ∧ Below wr.heap.size wr W') := Lib.hid (fun W hW =>
          (sum_ref (M a) (by have := Hl5.out; omega) Am cm hA0 W (hmb.below hW).bs).mono fun e W' ⟨he, hb⟩ => ⟨he, hW.trans (hb.mono hW.size)⟩)
        have e1 : ∀ W, (binOp .eql 25 (dg (sha (M a))) (dg (sha (M a)))).run Tryd.prog W = .ok (.bool true) W := fun W => by
          have := eql_dig (sha (M a)) (sha (M a)) (sha_length _) (sha_length _) W; simpa using this
        clear hA0 hmb hSa
        generalize sha (M a) = d at *
        have ha2 : (a : Int) < 2 := by omega
        go_upto_region 32 with (fail)
        refine wp_region_quiet (C := fun W => Below wr.heap.size wr W) (by kernel_rfl) (by kernel_rfl) (below_drew _) ?_
        iterate 19 (first
          | (refine q_cell rfl _ (.tmp 127) rfl ⟨p, a, none⟩ rfl _ _ Hcp.out Tryd.underlying29 rfl ?_)
          | (refine q_cell rfl _ (.tmp 133) rfl ⟨p, a, none⟩ rfl _ _ Hcp.out Tryd.underlying29 rfl ?_)
          | (refine q_cell rfl _ (.tmp 138) rfl ⟨q, a, none⟩ rfl _ _ Hcq.out Tryd.underlying22 rfl ?_)
          | (refine wpQuiet_step (fun K hK => ?_); go_simp; (first
              | (refine ⟨_, fun _ _ => rfl, hK _ ?_⟩)
              | (refine ⟨_, fun _ _ => (by simp only [if_pos ha2]; exact ⟨rfl, rfl⟩), hK _ ?_⟩)
              | (refine ⟨_, Hcs.out, hK _ ?_⟩) | (refine ⟨_, Hcr.out, hK _ ?_⟩)); clear hK K))
        refine wpQuiet_nil ?_
        intro W2 hW2
        have HW2 := Lib.hid hW2
        clear hW2
        go_wp2_with fail
        go_ret
        exact ⟨rfl, Hb.out.trans (HW2.out.mono Hb.out.size)⟩
  · go_wp2_with fail
    go_ret
    exact ⟨rfl, Below.refl _ _⟩
end Go.Proofs.YtkdkpnidiehdfaaDoor
