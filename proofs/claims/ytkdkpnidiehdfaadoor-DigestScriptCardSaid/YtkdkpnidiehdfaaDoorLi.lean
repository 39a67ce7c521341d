/- lists of slices of bytes: lent, kept. -/
import Derived.Test.YtkdkpnidiehdfaaDoorTd
import Derived.Test.YtkdkpnidiehdfaaDoorDg
set_option linter.unusedSimpArgs false
set_option linter.unusedVariables false
namespace Go.Proofs.YtkdkpnidiehdfaaDoor
open Go.RowKit

theorem E46 : El Tryd.prog 46 22 (.slice none 0 0) 24 := ⟨Tryd.underlying46, by kernel_rfl, rfl⟩

/-- a slice of slices of bytes in blocks below B reads as ls. -/
def Ls (w : World) (B : Nat) (A : Option Addr) (ls : List (List UInt8)) : Prop :=
  ∀ i, i < ls.length → ∃ b off, A = some ⟨b, off, none⟩ ∧ b < B ∧ ∃ Ai ci, w.cell? ⟨b, off + i, none⟩ = some (.slice Ai (ls.getD i []).length ci) ∧ Bs w B Ai (ls.getD i []) ∧ (Ai = none → ls.getD i [] = [])
theorem Ls.keep {w w' : World} {B : Nat} {A : Option Addr} {ls : List (List UInt8)} (h : Ls w B A ls) (hk : ∀ b o, b < B → w'.cell? ⟨b, o, none⟩ = w.cell? ⟨b, o, none⟩) : Ls w' B A ls := fun i hi => by
  obtain ⟨b, off, e, hb, Ai, ci, hc, hs, hn⟩ := h i hi
  exact ⟨b, off, e, hb, Ai, ci, (hk b _ hb).trans hc, hs.keep hk, hn⟩
theorem Ls.below {w w' : World} {B : Nat} {A : Option Addr} {ls : List (List UInt8)} (h : Ls w B A ls) (hb : Below B w w') : Ls w' B A ls := h.keep fun b o hbB => hb.cell (p := ⟨b, o, none⟩) hbB
theorem Ls.more {w : World} {B B' : Nat} {A : Option Addr} {ls : List (List UInt8)} (h : Ls w B A ls) (hB : B ≤ B') : Ls w B' A ls := fun i hi => by
  obtain ⟨b, off, e, hb, Ai, ci, hc, hs, hn⟩ := h i hi
  exact ⟨b, off, e, by omega, Ai, ci, hc, hs.more hB, hn⟩

/-- slices that were lent: each has its list, and marks behind it. -/
def Lent (w : World) (B : Nat) (vs : List Value) (ls : List (List UInt8)) : Prop :=
  vs.length = ls.length ∧ ∀ i, i < ls.length → ∃ g, vs[i]? = some (.slice (some ⟨g, 0, none⟩) (ls.getD i []).length ((ls.getD i []).length + 3)) ∧ B ≤ g ∧ w.heap[g]? = some (.cells (bcells (ls.getD i [] ++ marks (ls.getD i []).length)).toArray 5 (0, 0))
theorem Lent.below {w w' : World} {B : Nat} {vs : List Value} {ls : List (List UInt8)} (h : Lent w B vs ls) (hb : Below w.heap.size w w') : Lent w' B vs ls :=
  ⟨h.1, fun i hi => by obtain ⟨g, h1, h2, h3⟩ := h.2 i hi; exact ⟨g, h1, h2, (hb.block g (lt_blk h3)).trans h3⟩⟩
theorem own_ne {w : World} {base n g : Nat} {e e' : TypeId} {v : Value} {xs : List Value} {cs : Array Value} (h : w.ownsRow base e 1 v n xs) (hg : w.heap[g]? = some (.cells cs e' (0, 0))) (hne : e ≠ e') : some g ≠ v.ownBlock := by
  rcases h.2 with ⟨rfl, _⟩ | ⟨g', cap, cur, rfl, _, hh, _⟩
  · simp [Value.ownBlock]
  · intro e1
    simp only [Value.ownBlock, Option.some.injEq] at e1
    subst e1
    rw [hg] at hh
    injection hh with hh
    injection hh with _ h2 _
    exact hne h2.symm
theorem Lent.grown {w w' : World} {B base n : Nat} {v : Value} {vs : List Value} {ls : List (List UInt8)} (h : Lent w B vs ls) (ho : w.ownsRow base 22 1 v n vs) (hg : w.grownBy w' v.ownBlock) : Lent w' B vs ls :=
  ⟨h.1, fun i hi => by obtain ⟨g, h1, h2, h3⟩ := h.2 i hi; exact ⟨g, h1, h2, (hg.block g (lt_blk h3) (own_ne ho h3 (by decide))).trans h3⟩⟩
theorem Lent.snoc {w : World} {B g : Nat} {vs : List Value} {ls : List (List UInt8)} {l : List UInt8} (h : Lent w B vs ls) (hB : B ≤ g) (hg : w.heap[g]? = some (.cells (bcells (l ++ marks l.length)).toArray 5 (0, 0))) :
    Lent w B (vs ++ [.slice (some ⟨g, 0, none⟩) l.length (l.length + 3)]) (ls ++ [l]) := by
  refine ⟨by simp [h.1], fun i hi => ?_⟩
  by_cases hi' : i < ls.length
  · obtain ⟨g', h1, h2, h3⟩ := h.2 i hi'
    have e : (ls ++ [l]).getD i [] = ls.getD i [] := by simp [List.getD_eq_getElem?_getD, List.getElem?_append_left hi']
    exact ⟨g', by rw [List.getElem?_append_left (by rw [h.1]; exact hi'), e]; exact h1, h2, by rw [e]; exact h3⟩
  · have : i = ls.length := by simp at hi; omega
    subst this
    have e : (ls ++ [l]).getD ls.length [] = l := by simp [List.getD_eq_getElem?_getD]
    exact ⟨g, by rw [e, ← h.1]; simp, hB, by rw [e]; exact hg⟩
theorem take_getD {α : Type} (l : List α) (k i : Nat) (d : α) (h : i < k) : (l.take k).getD i d = l.getD i d := by simp [List.getD_eq_getElem?_getD, List.getElem?_take, h]

set_option maxRecDepth 100000 in
set_option maxHeartbeats 1000000 in
theorem lent_lists (ls : List (List UInt8)) (hn : ls.length ≤ 1000) (hl : ∀ l ∈ ls, l.length ≤ 1000000) (A : Option Addr) (cap : Nat) (w : World) (hA : Ls w w.heap.size A ls) :
    Calls Tryd.prog 28 #[.slice A ls.length cap] w fun e w' => ∃ v vs, e = .returned v ∧ w'.ownsRow w.heap.size 22 1 v ls.length vs ∧ Lent w' w.heap.size vs ls ∧ Below w.heap.size w w' := by
  have HA := Lib.hid hA; have HL := Lib.hid hl
  clear hA hl
  go_enter Tryd.func28, Tryd.ntmps28
  go_wp2_with fail
  go_loopw [3, 4] (fun v i wr => ∃ (k : Nat) (vs : List Value), k ≤ ls.length ∧ i = .int .i64 k ∧ wr.ownsRow w.heap.size 22 1 v k vs ∧ Lent wr w.heap.size vs (ls.take k) ∧ Below w.heap.size w wr) (fun _ i _ => ls.length - (intOf i).toNat)
  case atStart => exact ⟨0, [], by omega, rfl, World.ownsRow_nil _ _ _ _, ⟨rfl, fun i hi => by simp at hi⟩, Below.refl _ _⟩
  case round =>
    obtain ⟨k, vs, hk, rfl, hown, hle, hb⟩ := hrel
    have Hown := Lib.hid hown; have Hle := Lib.hid hle; have Hb := Lib.hid hb
    clear hown hle hb
    by_cases hlt : k < ls.length
    · obtain ⟨b, off, rfl, hbl, Ai, ci, hc, hs, hnil⟩ := HA.out k hlt
      have hc1 := (Hb.out.cell (p := ⟨b, off + k, none⟩) hbl).trans hc
      have Hs := Lib.hid ((hs.below Hb.out).more Hb.out.size)
      have Hll : Hid ((ls.getD k []).length ≤ 1000000) := Lib.hid (HL.out _ (by rw [List.getD_eq_getElem?_getD, List.getElem?_eq_getElem hlt]; simp))
      have Htk : Hid (ls.take (k + 1) = ls.take k ++ [ls.getD k []]) := Lib.hid (by rw [List.take_succ_eq_append_getElem hlt]; simp [List.getD_eq_getElem?_getD, hlt])
      clear hc hs
      generalize ls.getD k [] = l at *
      go_wp2_with fail
      refine (lent_bytes l (by have := Hll.out; omega) Ai ci wr Hs.out).mono ?_
      rintro e w1 ⟨g, rfl, hg1, hw1, hb1⟩
      have Hw1 := Lib.hid hw1; have Hb1 := Lib.hid hb1; have Hg1 := Lib.hid (Nat.le_trans Hb.out.size hg1)
      have Hown1 := Lib.hid (own_below Hown.out hb1)
      have Hb2 := Lib.hid (Hb.out.trans (hb1.mono Hb.out.size))
      clear hw1 hb1 hg1
      go_wp2_with (at_builtin; refine wpList_append_one0 E46 rfl (.tmp 11) (.tmp 17) rfl w.heap.size _ rfl _ k vs rfl Hown1.out rfl (by omega) (by omega) w (Nat.le_refl _) Hb2.out ?_; intro v' w' h2 h3 h4 h5; have H2 := Lib.hid h2; have H3 := Lib.hid h3; have H4 := Lib.hid h4; have H5 := Lib.hid h5; clear h2 h3 h4 h5)
      have Hlf : Hid (Lent w' w.heap.size (vs ++ [.slice (some ⟨g, 0, none⟩) l.length (l.length + 3)]) (ls.take (k + 1))) := Lib.hid (by
        rw [Htk.out]
        exact ((Hle.out.below Hb1.out).grown Hown1.out H4.out).snoc Hg1.out ((H4.out.block g (lt_blk Hw1.out) (own_ne Hown1.out Hw1.out (by decide))).trans Hw1.out))
      go_roundw
      case rel => exact ⟨k + 1, _, by omega, by go_num, H2.out, Hlf.out, H3.out⟩
      case measure => simp [intOf]; omega
    · obtain rfl : k = ls.length := by omega
      go_wp2_with fail
      go_ret
      exact ⟨_, vs, rfl, Hown.out, by have := Hle.out; rwa [List.take_length] at this, Hb.out⟩

set_option maxRecDepth 100000 in
set_option maxHeartbeats 1000000 in
theorem kept_lists (ls : List (List UInt8)) (hn : ls.length ≤ 1000) (hl : ∀ l ∈ ls, l.length ≤ 1000000) (A : Option Addr) (cap B : Nat) (A1 : Option Addr) (cap1 : Nat) (vs : List Value) (w : World)
    (hA : Ls w w.heap.size A ls) (hv : Rd w w.heap.size A1 vs) (hle : Lent w B vs ls) :
    Calls Tryd.prog 33 #[.slice A1 ls.length cap1, .slice A ls.length cap] w fun e w' => e = .returned (.bool true) ∧ Below w.heap.size w w' := by
  have HA := Lib.hid hA; have HL := Lib.hid hl; have HV := Lib.hid hv; have HLe := Lib.hid hle
  clear hA hl hv hle
  go_enter Tryd.func33, Tryd.ntmps33
  go_wp2_with fail
  go_loopw [5] (fun i wr => ∃ (k : Nat), k ≤ ls.length ∧ i = .int .i64 k ∧ Below w.heap.size w wr) (fun i _ => ls.length - (intOf i).toNat)
  case atStart => exact ⟨0, by omega, rfl, Below.refl _ _⟩
  case round =>
    obtain ⟨k, hk, rfl, hb⟩ := hrel
    have Hb := Lib.hid hb
    clear hb
    by_cases hlt : k < ls.length
    · obtain ⟨b, off, rfl, hbl, Ai, ci, hc, hs, hnil⟩ := HA.out k hlt
      obtain ⟨g, hg1, hg2, hg3⟩ := HLe.out.2 k hlt
      obtain ⟨b2, off2, rfl, hbl2, hc2⟩ := HV.out k _ hg1
      have Hs := Lib.hid hs; have Hg3 := Lib.hid hg3
      have Hc1 : Hid (∀ W, Below wr.heap.size wr W → W.cell? ⟨b, off + k, none⟩ = some (.slice Ai (ls.getD k []).length ci)) := Lib.hid (fun W hW =>
        ((Hb.out.trans (hW.mono Hb.out.size)).cell (p := ⟨b, off + k, none⟩) hbl).trans hc)
      have Hc2 : Hid (∀ W, Below wr.heap.size wr W → W.cell? ⟨b2, off2 + k, none⟩ = some (.slice (some ⟨g, 0, none⟩) (ls.getD k []).length ((ls.getD k []).length + 3))) := Lib.hid (fun W hW =>
        ((Hb.out.trans (hW.mono Hb.out.size)).cell (p := ⟨b2, off2 + k, none⟩) hbl2).trans hc2)
      have Hll : Hid ((ls.getD k []).length ≤ 1000000) := Lib.hid (HL.out _ (by rw [List.getD_eq_getElem?_getD, List.getElem?_eq_getElem hlt]; simp))
      clear hc hc2 hg1 hg3 hs
      generalize ls.getD k [] = l at *
      have Hk : Hid (∀ W, Below wr.heap.size wr W → Calls Tryd.prog 18 #[.slice (some ⟨g, 0, none⟩) l.length (l.length + 3), .slice Ai l.length ci] W fun e W' => ∃ v, e = .returned v ∧ Below W.heap.size W W' ∧ ttHolds (.inl (.bool true)) v W') := Lib.hid (fun W hW => by
        have hwW := Hb.out.trans (hW.mono Hb.out.size)
        exact (kept_bytes l (by have := Hll.out; omega) Ai ci g W ((Hs.out.below hwW).more hwW.size) ((hwW.block g (lt_blk Hg3.out)).trans Hg3.out)).mono fun e W' ⟨he, h⟩ => ⟨_, he, h, rfl⟩)
      have q1 : (0 : Int) ≤ k := by omega
      have q2 : (k : Int) < (ls.length : Int) := by omega
      go_wp2_with fail
      apply wp_region_rel 10 [.inl _, .inl _, .inl _, .inl _, .inl _, .inl _, .inl _, .inl _, .inl _, .inl _] (by kernel_rfl) (by kernel_rfl) rfl
      simp only [List.take_succ_cons, List.take_zero, List.drop_succ_cons, List.drop_zero]
      iterate 8 (apply rel_is; (intro W hW hf; have hx1 := Hc1.out W hW; have hx2 := Hc2.out W hW; go_simp; exact ⟨Stay.refl _ _, rfl⟩); simp only [Act.put, List.setIfInBounds_toArray, List.set_cons_succ, List.set_cons_zero])
      apply rel_is
      · intro W hW hf
        exact rel_call hW rfl (by go_simp) (Hk.out W hW)
      simp only [Act.put, List.setIfInBounds_toArray, List.set_cons_succ, List.set_cons_zero]
      apply rel_is
      · intro W hW hf; go_simp; exact ⟨Stay.refl _ _, rfl⟩
      simp only [Act.put, List.setIfInBounds_toArray, List.set_cons_succ, List.set_cons_zero]
      refine rel_end ?_
      intro W hW _
      have HW := Lib.hid (Hb.out.trans (hW.mono Hb.out.size))
      clear hW
      refine wpList_nil ?_
      go_wp2_with fail
      go_roundw
      case rel => exact ⟨k + 1, by omega, by go_num, HW.out⟩
      case measure => simp [intOf]; omega
    · obtain rfl : k = ls.length := by omega
      go_wp2_with fail
      go_ret
      exact ⟨rfl, Hb.out⟩
end Go.Proofs.YtkdkpnidiehdfaaDoor
