/- several texts in one: all traces that come of one by changing about: plain, and as rows of events in memory., assizelaw15.first, assizeref15.All: the walks., NormAll: its walk. -/
import Derived.Test.YtaalinhkikmfaaaMg9
import Derived.Test.YtaalinhkikmfaaaCj
import Derived.Test.YtaalinhkikmfaaaHa
import Derived.Test.YtaalinhkikmfaaaMg5
import Derived.Test.YtaalinhkikmfaaaMg8
import Derived.Test.YtaalinhkikmfaaaMg7
section
set_option linter.unusedSimpArgs false
set_option linter.unusedVariables false
namespace Go.Proofs.Ytaalinhkikmfaaa
open Go.RowKit

theorem swL_eq (u v : List Ev) (a b : Ev) : swL (u ++ a :: b :: v) u.length = u ++ b :: a :: v := by
  have hp : u.length + 1 < (u ++ a :: b :: v).length := by simp
  refine ev_ext (by rw [swL_length]; simp) fun j hj => ?_
  rw [swL_length] at hj
  rw [ev_swL _ _ hp]
  unfold sw
  by_cases h1 : j = u.length
  · subst h1
    rw [if_pos rfl, evt_right _ _ _ (by omega), evt_right _ _ _ (by omega), show u.length + 1 - u.length = 1 by omega, show u.length - u.length = 0 by omega]
    rfl
  · rw [if_neg h1]
    by_cases h2 : j = u.length + 1
    · subst h2
      rw [if_pos rfl, evt_right _ _ _ (by omega), evt_right _ _ _ (by omega), show u.length + 1 - u.length = 1 by omega, show u.length - u.length = 0 by omega]
      rfl
    · rw [if_neg h2]
      by_cases h3 : j < u.length
      · rw [evt_left _ _ _ h3, evt_left _ _ _ h3]
      · rw [evt_right _ _ _ (by omega), evt_right _ _ _ (by omega)]
        obtain ⟨d, hd⟩ : ∃ d, j - u.length = d + 2 := ⟨j - u.length - 2, by omega⟩
        rw [hd]
        rfl
theorem sw_swL {x y : List Ev} (h : Sw x y) : ∃ i, i + 1 < x.length ∧ dpd (ev x i) (ev x (i + 1)) = false ∧ y = swL x i := by
  obtain ⟨u, a, b, v, rfl, rfl, hd⟩ := h
  refine ⟨u.length, by simp, ?_, (swL_eq u v a b).symm⟩
  rw [evt_right _ _ _ (by omega), evt_right _ _ _ (by omega), show u.length + 1 - u.length = 1 by omega, show u.length - u.length = 0 by omega]
  exact hd
theorem swL_sw {x : List Ev} {i : Nat} (h : i + 1 < x.length) (hd : dpd (ev x i) (ev x (i + 1)) = false) : Sw x (swL x i) := by
  obtain ⟨u, v, e1, e2⟩ := swL_cut h
  exact ⟨u, _, _, v, e1, e2, hd⟩
/-- so many of them have all their neighbours in. -/
structure AllI (a : List Ev) (k : Nat) (ls : List (List Ev)) : Prop where
  tq : ∀ x ∈ ls, Tq a x
  one : a ∈ ls
  all : ∀ j, j < k → ∀ y, Sw (ls.getD j []) y → y ∈ ls
  le : k ≤ ls.length
theorem AllI.start (a : List Ev) : AllI a 0 [a] := ⟨fun x hx => by simp at hx; rw [hx]; exact .refl, by simp, fun j hj => by omega, by omega⟩
theorem AllI.done {a : List Ev} {ls : List (List Ev)} (h : AllI a ls.length ls) (b : List Ev) : b ∈ ls ↔ Tq a b := by
  refine ⟨h.tq b, fun ht => ?_⟩
  induction ht with
  | refl => exact h.one
  | step _ hs ih =>
    obtain ⟨j, hj, e⟩ := List.getElem_of_mem ih
    refine h.all j hj _ ?_
    rw [List.getD_eq_getElem?_getD, List.getElem?_eq_getElem hj, Option.getD_some, e]
    exact hs
/-- and of the next one so many. -/
structure AllJ (a : List Ev) (k i : Nat) (x : List Ev) (ls : List (List Ev)) : Prop extends AllI a k ls where
  lt : k < ls.length
  is : ls.getD k [] = x
  now : ∀ j, j < i → j + 1 < x.length → dpd (ev x j) (ev x (j + 1)) = false → swL x j ∈ ls
theorem AllI.open {a : List Ev} {k : Nat} {ls : List (List Ev)} (h : AllI a k ls) (hk : k < ls.length) : AllJ a k 0 (ls.getD k []) ls := ⟨h, hk, rfl, fun j hj => by omega⟩
theorem AllJ.mem {a x : List Ev} {k i : Nat} {ls : List (List Ev)} (h : AllJ a k i x ls) : x ∈ ls := by
  rw [← h.is, List.getD_eq_getElem?_getD, List.getElem?_eq_getElem h.lt, Option.getD_some]
  exact List.getElem_mem _
theorem AllJ.close {a x : List Ev} {k i : Nat} {ls : List (List Ev)} (h : AllJ a k i x ls) (hi : x.length ≤ i + 1) : AllI a (k + 1) ls := by
  refine ⟨h.tq, h.one, fun j hj y hy => ?_, h.lt⟩
  by_cases e : j = k
  · subst e
    rw [h.is] at hy
    obtain ⟨p, hp, hd, rfl⟩ := sw_swL hy
    exact h.now p (by omega) hp hd
  · exact h.all j (by omega) y hy
theorem AllJ.skip {a x : List Ev} {k i : Nat} {ls : List (List Ev)} (h : AllJ a k i x ls) (hd : dpd (ev x i) (ev x (i + 1)) = true) : AllJ a k (i + 1) x ls :=
  ⟨h.toAllI, h.lt, h.is, fun j hj h1 h2 => by
    by_cases e : j = i
    · subst e; rw [hd] at h2; cases h2
    · exact h.now j (by omega) h1 h2⟩
theorem AllJ.met {a x : List Ev} {k i : Nat} {ls : List (List Ev)} (h : AllJ a k i x ls) (hm : swL x i ∈ ls) : AllJ a k (i + 1) x ls :=
  ⟨h.toAllI, h.lt, h.is, fun j hj h1 h2 => by
    by_cases e : j = i
    · subst e; exact hm
    · exact h.now j (by omega) h1 h2⟩
theorem AllJ.add {a x : List Ev} {k i : Nat} {ls : List (List Ev)} (h : AllJ a k i x ls) (hi : i + 1 < x.length) (hd : dpd (ev x i) (ev x (i + 1)) = false) : AllJ a k (i + 1) x (ls ++ [swL x i]) := by
  have hg : ∀ j, j < ls.length → (ls ++ [swL x i]).getD j [] = ls.getD j [] := fun j hj => by
    rw [List.getD_eq_getElem?_getD, List.getD_eq_getElem?_getD, List.getElem?_append_left hj]
  have hle := h.le
  have hlt := h.lt
  refine ⟨⟨fun y hy => ?_, List.mem_append_left _ h.one, fun j hj y hy => ?_, ?_⟩, ?_, ?_, fun j hj h1 h2 => ?_⟩
  · rcases List.mem_append.1 hy with hy | hy
    · exact h.tq y hy
    · simp at hy
      rw [hy]
      exact .step (h.tq x h.mem) (swL_sw hi hd)
  · rw [hg j (by omega)] at hy
    exact List.mem_append_left _ (h.all j hj y hy)
  · simp; omega
  · simp; omega
  · rw [hg k hlt]; exact h.is
  · by_cases e : j = i
    · subst e; simp
    · exact List.mem_append_left _ (h.now j (by omega) h1 h2)
theorem tq_len {a b : List Ev} (h : Tq a b) : b.length = a.length := by
  induction h with
  | refl => rfl
  | step _ hs ih => rw [← hs.length, ih]
/-- a trace of q events; its block lies ahead of B, or is one of events. -/
def TrV (w : World) (B q : Nat) (v : Value) (x : List Ev) : Prop := ∃ A c, v = .slice A q c ∧ x.length = q ∧ q ≤ c ∧ (A = none → q = 0) ∧ Evs w w.heap.size A x ∧ ∀ b o z, A = some ⟨b, o, z⟩ → q = 0 ∨ b < B ∨ ∃ cur r, w.heap[b]? = some (.cells cur 50 r)
theorem TrV.below {w w' : World} {B q : Nat} {v : Value} {x : List Ev} (h : TrV w B q v x) (hb : Below w.heap.size w w') : TrV w' B q v x := by
  obtain ⟨A, c, e, h1, h2, h3, h4, h5⟩ := h
  refine ⟨A, c, e, h1, h2, h3, (h4.below hb).more hb.size, fun b o z hA => (h5 b o z hA).imp_right fun h6 => h6.imp_right ?_⟩
  rintro ⟨cur, r, hc⟩
  exact ⟨cur, r, (hb.block b (lt_blk hc)).trans hc⟩
theorem TrV.grown {w w' : World} {B q m : Nat} {v u : Value} {x : List Ev} {xs : List Value} (h : TrV w B q v x) (ho : w.ownsRow B 22 1 u m xs) (hg : w.grownBy w' u.ownBlock) : TrV w' B q v x := by
  obtain ⟨A, c, e, h1, h2, h3, h4, h5⟩ := h
  have hk : ∀ b o z, A = some ⟨b, o, z⟩ → q ≠ 0 → b < w.heap.size → w'.heap[b]? = w.heap[b]? := fun b o z hA hq hb => by
    refine hg.block b hb fun e => ?_
    rcases ho.2 with ⟨rfl, _⟩ | ⟨g, cap, cur, rfl, hBg, hgc, _⟩
    · simp [Value.ownBlock] at e
    · simp only [Value.ownBlock] at e
      injection e with e
      subst e
      rcases h5 b o z hA with h6 | h6 | ⟨cur', r, h6⟩
      · omega
      · omega
      · rw [hgc] at h6
        injection h6 with h6
        injection h6 with _ h7
        exact absurd h7 (by decide)
  refine ⟨A, c, e, h1, h2, h3, fun i hi => ?_, fun b o z hA => ?_⟩
  · obtain ⟨b, off, hA, hb, c1, c2, c3⟩ := h4 i hi
    have hh := hk b off none hA (by omega) hb
    have := hg.size
    exact ⟨b, off, hA, by omega, (World.cell?_of_block (a := ⟨b, _, none⟩) hh).trans c1, (World.cell?_of_block (a := ⟨b, _, none⟩) hh).trans c2, (World.cell?_of_block (a := ⟨b, _, none⟩) hh).trans c3⟩
  · by_cases h0 : q = 0
    · exact .inl h0
    · refine .inr ((h5 b o z hA).resolve_left h0 |>.imp_right ?_)
      rintro ⟨cur, r, hc⟩
      exact ⟨cur, r, (hk b o z hA h0 (lt_blk hc)).trans hc⟩
def TrL (w : World) (B q : Nat) (vs : List Value) (ls : List (List Ev)) : Prop := vs.length = ls.length ∧ ∀ i, i < ls.length → ∃ v, vs[i]? = some v ∧ TrV w B q v (ls.getD i [])
theorem TrL.below {w w' : World} {B q : Nat} {vs : List Value} {ls : List (List Ev)} (h : TrL w B q vs ls) (hb : Below w.heap.size w w') : TrL w' B q vs ls := ⟨h.1, fun i hi => by
  obtain ⟨v, e, hv⟩ := h.2 i hi
  exact ⟨v, e, hv.below hb⟩⟩
theorem TrL.grown {w w' : World} {B q m : Nat} {vs : List Value} {ls : List (List Ev)} {u : Value} {xs : List Value} (h : TrL w B q vs ls) (ho : w.ownsRow B 22 1 u m xs) (hg : w.grownBy w' u.ownBlock) : TrL w' B q vs ls := ⟨h.1, fun i hi => by
  obtain ⟨v, e, hv⟩ := h.2 i hi
  exact ⟨v, e, hv.grown ho hg⟩⟩
theorem TrL.snoc {w : World} {B q : Nat} {vs : List Value} {ls : List (List Ev)} {v : Value} {x : List Ev} (h : TrL w B q vs ls) (hv : TrV w B q v x) : TrL w B q (vs ++ [v]) (ls ++ [x]) := by
  refine ⟨by simp [h.1], fun i hi => ?_⟩
  have hl := h.1
  by_cases e : i < ls.length
  · obtain ⟨v', e', hv'⟩ := h.2 i e
    refine ⟨v', by rw [List.getElem?_append_left (by omega)]; exact e', ?_⟩
    rw [List.getD_eq_getElem?_getD, List.getElem?_append_left e, ← List.getD_eq_getElem?_getD]
    exact hv'
  · obtain rfl : i = ls.length := by simp at hi; omega
    refine ⟨v, by rw [← hl]; simp, ?_⟩
    simpa [List.getD_eq_getElem?_getD] using hv
theorem TrL.one {w : World} {B q : Nat} {v : Value} {x : List Ev} (hv : TrV w B q v x) : TrL w B q [v] [x] := ⟨rfl, fun i hi => by
  obtain rfl : i = 0 := by simp at hi; omega
  exact ⟨v, rfl, hv⟩⟩
theorem EE2 : El Try.prog 58 22 (.slice none 0 0) 24 := ⟨Try.underlying58, by kernel_rfl, rfl⟩
theorem sw6_typ {w : World} {g a b : Nat} {x y : Ev} {cur : Array Value} (hg : w.heap[g]? = some (.cells cur 50 (0, 0))) : ∃ cur', (sw6 w g a b x y).heap[g]? = some (.cells cur' 50 (0, 0)) := by
  have h5 := set_blk (set_blk (set_blk (set_blk (set_blk (set_blk hg (a * 3) (.int .i64 y.t)) (a * 3 + 1) (.int .i64 y.k)) (a * 3 + 2) (.int .i64 y.o)) (b * 3) (.int .i64 x.t)) (b * 3 + 1) (.int .i64 x.k)) (b * 3 + 2) (.int .i64 x.o)
  exact ⟨_, (show _ = _ by unfold sw6; rw [drew_heap]).trans h5⟩
end Go.Proofs.Ytaalinhkikmfaaa
end

section
set_option linter.unusedSimpArgs false
set_option linter.unusedVariables false
namespace Go.Proofs.Ytaalinhkikmfaaa
open Go.RowKit

theorem first_drop {a b : List Ev} {k : Nat} (ha : k < a.length) (hb : k < b.length) : first (a.drop k) (b.drop k) = if (ev a k).t = (ev b k).t then first (a.drop (k + 1)) (b.drop (k + 1)) else decide ((ev a k).t < (ev b k).t) := by
  rw [List.drop_eq_getElem_cons ha, List.drop_eq_getElem_cons hb]
  have e1 : ev a k = a[k] := by simp [ev, List.getD_eq_getElem?_getD, ha]
  have e2 : ev b k = b[k] := by simp [ev, List.getD_eq_getElem?_getD, hb]
  rw [e1, e2]
  rfl
theorem first_end {a b : List Ev} : first (a.drop a.length) b = true := by
  rw [List.drop_length]
  rfl
set_option maxRecDepth 100000 in
set_option maxHeartbeats 4000000 in
theorem first_any (a b : List Ev) (q : Nat) (ha : q = a.length) (hb : q = b.length) (hq : q ≤ 1000000) (A A' : Option Addr) (c c' B : Nat) (w : World) (hA : Evs w B A a) (hA' : Evs w B A' b) (hB : B ≤ w.heap.size) :
    Calls Try.prog 33 #[.slice A q c, .slice A' q c'] w fun e w' => e = .returned (.bool (first a b)) ∧ Below w.heap.size w w' := by
  have HA := Lib.hid hA; have HA' := Lib.hid hA'; have HN := Lib.hid ha; have HM := Lib.hid hb
  have HF0 : Hid (first a b = first (a.drop 0) (b.drop 0)) := Lib.hid rfl
  clear hA hA' ha hb
  go_enter Try.func33, Try.ntmps33
  go_wp2_with fail
  go_loopw [5] (fun iv wr => ∃ k : Nat, k ≤ q ∧ iv = .int .i64 (k : Nat) ∧ first a b = first (a.drop k) (b.drop k) ∧ Below w.heap.size w wr) (fun iv _ => q - (intOf iv).toNat)
  case atStart => exact ⟨0, by omega, by go_num, HF0.out, Below.refl _ _⟩
  case round =>
    obtain ⟨k, hk, rfl, hf, hb⟩ := hrel
    have HF := Lib.hid hf; have HB := Lib.hid hb
    clear hf hb
    by_cases hlt : k < q
    · obtain ⟨b1, o1, rfl, hb1, h1, h2, h3⟩ := HA.out k (by rw [← HN.out]; exact hlt)
      obtain ⟨b2, o2, rfl, hb2, h4, h5, h6⟩ := HA'.out k (by rw [← HM.out]; exact hlt)
      have HD := Lib.hid (first_drop (a := a) (b := b) (k := k) (by rw [← HN.out]; exact hlt) (by rw [← HM.out]; exact hlt))
      generalize (ev a k).t = x at *
      generalize (ev b k).t = y at *
      have T : Hid (∀ W, Below wr.heap.size wr W → W.cell? ⟨b1, o1 + k * 3, none⟩ = some (.int .i64 x) ∧ W.cell? ⟨b2, o2 + k * 3, none⟩ = some (.int .i64 y)) := Lib.hid (fun W hW => by
        have hX := HB.out.trans (hW.mono HB.out.size)
        exact ⟨(hX.cell (p := ⟨b1, o1 + k * 3, none⟩) (Nat.lt_of_lt_of_le hb1 hB)).trans h1, (hX.cell (p := ⟨b2, o2 + k * 3, none⟩) (Nat.lt_of_lt_of_le hb2 hB)).trans h4⟩)
      clear h1 h2 h3 h4 h5 h6
      have g1 : (0 : Int) ≤ k := by omega
      have g2 : (k : Int) < q := by omega
      by_cases hxy : x = y
      · have HE : Hid (first a b = first (a.drop (k + 1)) (b.drop (k + 1))) := Lib.hid (by rw [HF.out, HD.out, if_pos hxy])
        have d0 : (x != y) = false := by rw [bne_eq_false_iff_eq]; exact hxy
        clear hxy HD HF
        go_upto_region 4 with (fail)
        apply wp_region_relH (H := []) 11 [(Sum.inl _ : TT), (Sum.inl _ : TT), (Sum.inl _ : TT), (Sum.inl _ : TT), (Sum.inl _ : TT), (Sum.inl _ : TT), (Sum.inl _ : TT), (Sum.inl _ : TT), (Sum.inl _ : TT), (Sum.inl _ : TT), (Sum.inl _ : TT)] (by kernel_rfl) (by kernel_rfl) (fun _ _ _ _ _ h => h) rfl
        simp only [List.take_succ_cons, List.take_zero, List.drop_succ_cons, List.drop_zero]
        iterate 11 (apply rel_isS; (intro W hW hf; obtain ⟨hx1, hx2⟩ := T.out W hW; go_simp; first | exact ⟨StayS.refl _ _, rfl⟩ | rfl); simp only [Act.put, List.setIfInBounds_toArray, List.set_cons_succ, List.set_cons_zero])
        refine rel_endS ?_
        intro W hW hf
        try simp only [Act.put, List.setIfInBounds_toArray, List.set_cons_succ, List.set_cons_zero]
        refine wpList_nil ?_
        have HW := Lib.hid (HB.out.trans (hW.mono HB.out.size))
        clear hW hf
        go_wp2_with fail
        go_roundw
        case rel => exact ⟨k + 1, by omega, by go_num, HE.out, HW.out⟩
        case measure => simp [intOf]; omega
      · have HE : Hid (first a b = decide (x < y)) := Lib.hid (by rw [HF.out, HD.out, if_neg hxy])
        have d0 : (x != y) = true := by rw [bne_iff_ne]; exact hxy
        clear hxy HD HF
        go_upto_region 4 with (fail)
        apply wp_region_relH (H := []) 11 [(Sum.inl _ : TT), (Sum.inl _ : TT), (Sum.inl _ : TT), (Sum.inl _ : TT), (Sum.inl _ : TT), (Sum.inl _ : TT), (Sum.inl _ : TT), (Sum.inl _ : TT), (Sum.inl _ : TT), (Sum.inl _ : TT), (Sum.inl _ : TT)] (by kernel_rfl) (by kernel_rfl) (fun _ _ _ _ _ h => h) rfl
        simp only [List.take_succ_cons, List.take_zero, List.drop_succ_cons, List.drop_zero]
        iterate 11 (apply rel_isS; (intro W hW hf; obtain ⟨hx1, hx2⟩ := T.out W hW; go_simp; first | exact ⟨StayS.refl _ _, rfl⟩ | rfl); simp only [Act.put, List.setIfInBounds_toArray, List.set_cons_succ, List.set_cons_zero])
        refine rel_endS ?_
        intro W hW hf
        try simp only [Act.put, List.setIfInBounds_toArray, List.set_cons_succ, List.set_cons_zero]
        refine wpList_nil ?_
        have HW := Lib.hid hW
        clear hW hf
        go_upto_region 5 with (fail)
        apply wp_region_relH (H := []) 12 [(Sum.inl _ : TT), (Sum.inl _ : TT), (Sum.inl _ : TT), (Sum.inl _ : TT), (Sum.inl _ : TT), (Sum.inl _ : TT), (Sum.inl _ : TT), (Sum.inl _ : TT), (Sum.inl _ : TT), (Sum.inl _ : TT), (Sum.inl _ : TT), (Sum.inl _ : TT)] (by kernel_rfl) (by kernel_rfl) (fun _ _ _ _ _ h => h) rfl
        simp only [List.take_succ_cons, List.take_zero, List.drop_succ_cons, List.drop_zero]
        iterate 12 (apply rel_isS; (intro W hW hf; obtain ⟨hx1, hx2⟩ := T.out W (HW.out.trans (hW.mono HW.out.size)); go_simp; first | exact ⟨StayS.refl _ _, rfl⟩ | rfl); simp only [Act.put, List.setIfInBounds_toArray, List.set_cons_succ, List.set_cons_zero])
        refine rel_endS ?_
        intro W hW hf
        try simp only [Act.put, List.setIfInBounds_toArray, List.set_cons_succ, List.set_cons_zero]
        refine wpList_nil ?_
        have HW2 := Lib.hid (HB.out.trans ((HW.out.trans (hW.mono HW.out.size)).mono HB.out.size))
        clear hW hf
        go_wp2_with fail
        go_ret
        exact ⟨by rw [HE.out]; rfl, HW2.out⟩
    · obtain rfl : k = q := by omega
      have HE : Hid (first a b = true) := Lib.hid (by rw [HF.out, HN.out]; exact first_end)
      go_wp2_with fail
      go_ret
      exact ⟨by rw [HE.out]; rfl, HB.out⟩
theorem Evs.step4 {w w' : World} {A : Option Addr} {l : List Ev} (h : Evs w w.heap.size A l) (hb : Below w.heap.size w w') : Evs w' w'.heap.size A l := (h.below hb).more hb.size
theorem own_litE {w : World} {B g : Nat} {e : TypeId} {u : Value} (hB : B ≤ g) (h : w.heap[g]? = some (.cells #[u] e (0, 0))) : w.ownsRow B e 1 (.slice (some ⟨g, 0, none⟩) 1 1) 1 [u] :=
  ⟨rfl, .inr ⟨g, 1, #[u], rfl, hB, h, Nat.le_refl _, by simp [maxLen], by simp, by simp⟩⟩
theorem own_cut {w : World} {B q : Nat} {v : Value} {xs : List Value} (h : w.ownsRow B 50 3 v q xs) (hq : 0 < q) : ∃ g c cur, v = .slice (some ⟨g, 0, none⟩) q c ∧ B ≤ g ∧ w.heap[g]? = some (.cells cur 50 (0, 0)) ∧ q ≤ c ∧ cur.size = c * 3 ∧ cur.toList.take (q * 3) = xs := by
  rcases h.2 with ⟨_, h0⟩ | ⟨g, c, cur, e, h1, h2, h3, h4, h5, h6⟩
  · omega
  · exact ⟨g, c, cur, e, h1, h2, h3, h5, h6⟩
theorem mem_take_next {y : List Ev} {ls : List (List Ev)} {t : Nat} (h : t < ls.length) : decide (y ∈ ls.take (t + 1)) = (decide (y ∈ ls.take t) || decide (ls.getD t [] = y)) := by
  rw [List.take_add_one, List.getElem?_eq_getElem h, List.getD_eq_getElem?_getD, List.getElem?_eq_getElem h]
  simp only [Option.toList, Option.getD_some, List.mem_append, List.mem_singleton, Bool.decide_or]
  congr 1
  exact decide_eq_decide.2 ⟨fun e => e.symm, fun e => e.symm⟩
def AllP (a : List Ev) (q mst : Nat) (w : World) (e : Ending) (w' : World) : Prop := Below w.heap.size w w' ∧ (e = .returned (.tuple #[.slice none 0 0, .bool false]) ∨
  ∃ (A : Option Addr) (c L : Nat) (vs : List Value) (ls : List (List Ev)), e = .returned (.tuple #[.slice A L c, .bool true]) ∧ L = ls.length ∧ L ≤ mst ∧ Rd w' w'.heap.size A vs ∧ TrL w' w.heap.size q vs ls ∧ ∀ b, b ∈ ls ↔ Tq a b)
theorem TrV.len {w : World} {B q : Nat} {v : Value} {x : List Ev} (h : TrV w B q v x) : x.length = q := by obtain ⟨_, _, _, h, _⟩ := h; exact h
set_option maxRecDepth 100000 in
set_option maxHeartbeats 16000000 in
theorem all_any (a : List Ev) (q : Nat) (hq : q = a.length) (hq2 : q ≤ 1000) (mst : Nat) (hm1 : 1 ≤ mst) (hm2 : mst ≤ 1000000) (A : Option Addr) (cap : Nat) (hcap : q ≤ cap) (w : World) (hA : Evs w w.heap.size A a) (hA0 : A = none → q = 0) :
    Calls Try.prog 32 #[.slice A q cap, .int .i64 (mst : Nat)] w (AllP a q mst w) := by
  have hT0 : TrV w w.heap.size q (.slice A q cap) a := ⟨A, cap, rfl, hq.symm, hcap, hA0, hA, fun b o z hb => by
    by_cases h0 : q = 0
    · exact .inl h0
    · obtain ⟨b', o', e, hb', _⟩ := hA 0 (by omega)
      rw [hb] at e; injection e with e; injection e with e _; subst e; exact .inr (.inl hb')⟩
  have HT0 := Lib.hid hT0
  clear hT0 hA hA0 hq
  go_enter Try.func32, Try.ntmps32
  go_wp2_with fail
  have HR0 : Hid ((w.alloc (.cells #[.slice A q cap] 22)).ownsRow w.heap.size 22 1 (.slice (some ⟨w.heap.size, 0, none⟩) 1 1) 1 [.slice A q cap]) := Lib.hid (own_litE (Nat.le_refl _) (heap_alloc_new _ _))
  have HB0 := Lib.hid (below_alloc w (.cells #[.slice A q cap] 22))
  go_loopw [6, 7] (fun ov av wr => ∃ (k L : Nat) (vs : List Value) (ls : List (List Ev)), av = .int .i64 (k : Nat) ∧ L = ls.length ∧ L ≤ mst ∧ wr.ownsRow w.heap.size 22 1 ov L vs ∧ TrL wr w.heap.size q vs ls ∧ AllI a k ls ∧ Below w.heap.size w wr) (fun _ av _ => mst - (intOf av).toNat)
  case atStart => exact ⟨0, 1, [_], [a], by go_num, rfl, hm1, HR0.out, TrL.one (HT0.out.below HB0.out), AllI.start a, HB0.out⟩
  case round =>
    obtain ⟨k, L, vs, ls, rfl, hL, hLm, ho, ht, hi, hb⟩ := hrel
    have HO := Lib.hid ho; have HT := Lib.hid ht; have HI := Lib.hid hi; have HB := Lib.hid hb; have HLL := Lib.hid hL
    obtain ⟨A6, c6, rfl, hr6, _, hc6⟩ := own_rd ho
    have HR := Lib.hid hr6
    clear hr6 ho ht hi hb hL HR0 HB0 HT0
    by_cases hlt : k < L
    · obtain ⟨v, hv, hx⟩ := HT.out.2 k (by rw [← HLL.out]; exact hlt)
      obtain ⟨x, hxe⟩ : ∃ x, x = ls.getD k [] := ⟨_, rfl⟩
      rw [← hxe] at hx
      have HJ0 : Hid (AllJ a k 0 x ls) := Lib.hid (by rw [hxe]; exact HI.out.open (by rw [← HLL.out]; exact hlt))
      have HX := Lib.hid hx
      have HXL := Lib.hid hx.len
      obtain ⟨Ax, cx, rfl, _, hcx, _⟩ := hx
      obtain ⟨b6, o6, rfl, hb6, e6⟩ := HR.out k _ hv
      clear hxe hv HR HI
      go_wp2_with fail
      clear e6
      go_loopw [6, 9] (fun ov iv wr => ∃ (i L : Nat) (vs : List Value) (ls : List (List Ev)), i ≤ q ∧ iv = .int .i64 (i : Nat) ∧ L = ls.length ∧ L ≤ mst ∧ wr.ownsRow w.heap.size 22 1 ov L vs ∧ TrL wr w.heap.size q vs ls ∧ AllJ a k i x ls ∧ TrV wr w.heap.size q (.slice Ax q cx) x ∧ Below w.heap.size w wr) (fun _ iv _ => q - (intOf iv).toNat)
      case atStart => exact ⟨0, L, vs, ls, by omega, by go_num, HLL.out, hLm, HO.out, HT.out, HJ0.out, HX.out, HB.out⟩
      case round =>
        clear HO HT HJ0 HX HB HLL
        obtain ⟨i, L2, vs2, ls2, hi, rfl, hL, hLm2, ho, ht, hj, hx, hb⟩ := hrel
        have HO := Lib.hid ho; have HT := Lib.hid ht; have HJ := Lib.hid hj; have HB := Lib.hid hb; have HLL := Lib.hid hL; have HX := Lib.hid hx
        obtain ⟨A7, c7, rfl, hr7, _, hc7⟩ := own_rd ho
        obtain ⟨_, _, e, _, _, _, hxe, _⟩ := hx
        injection e with e1 _ e2
        subst e1 e2
        have HXE := Lib.hid hxe
        clear hr7 ho ht hj hb hL hxe
        by_cases hlt2 : i + 1 < q
        · obtain ⟨b, o, rfl, hb0, h1, h2, h3⟩ := HXE.out i (by rw [HXL.out]; omega)
          obtain ⟨_, _, e, _, h4, h5, h6⟩ := HXE.out (i + 1) (by rw [HXL.out]; omega)
          injection e with e; injection e with e1 e2; subst e1 e2
          have T : Hid (∀ W, Below wr.heap.size wr W → (W.cell? ⟨b, o + i * 3, none⟩ = some (.int .i64 (ev x i).t) ∧ W.cell? ⟨b, o + i * 3 + 1, none⟩ = some (.int .i64 (ev x i).k) ∧ W.cell? ⟨b, o + i * 3 + 2, none⟩ = some (.int .i64 (ev x i).o)) ∧ (W.cell? ⟨b, o + (i + 1) * 3, none⟩ = some (.int .i64 (ev x (i + 1)).t) ∧ W.cell? ⟨b, o + (i + 1) * 3 + 1, none⟩ = some (.int .i64 (ev x (i + 1)).k) ∧ W.cell? ⟨b, o + (i + 1) * 3 + 2, none⟩ = some (.int .i64 (ev x (i + 1)).o))) := Lib.hid (fun W hX =>
            ⟨⟨(hX.cell (p := ⟨b, o + i * 3, none⟩) hb0).trans h1, (hX.cell (p := ⟨b, o + i * 3 + 1, none⟩) hb0).trans h2, (hX.cell (p := ⟨b, o + i * 3 + 2, none⟩) hb0).trans h3⟩, (hX.cell (p := ⟨b, o + (i + 1) * 3, none⟩) hb0).trans h4, (hX.cell (p := ⟨b, o + (i + 1) * 3 + 1, none⟩) hb0).trans h5, (hX.cell (p := ⟨b, o + (i + 1) * 3 + 2, none⟩) hb0).trans h6⟩)
          clear h1 h2 h3 h4 h5 h6
          have DP : Hid (∀ W, Calls Try.prog 48 #[.agg #[.int .i64 (ev x i).t, .int .i64 (ev x i).k, .int .i64 (ev x i).o], .agg #[.int .i64 (ev x (i + 1)).t, .int .i64 (ev x (i + 1)).k, .int .i64 (ev x (i + 1)).o]] W fun e W' => ∃ v, e = .returned v ∧ Below W.heap.size W W' ∧ ttHolds (.inl (.bool (dpd (ev x i) (ev x (i + 1))))) v W') := Lib.hid (fun W =>
            (refdep_any (ev x i) (ev x (i + 1)) W).mono fun e w' ⟨h1, h2⟩ => ⟨_, h1, h2, rfl⟩)
          have g1 : (0 : Int) ≤ i := by omega
          have g2 : (i : Int) < q := by omega
          have g3 : (i : Int) + 1 < q := by omega
          have hwp : IntKind.i64.wrap ((i : Int) + 1) = (i : Int) + 1 := wi64 _ (by omega) (by omega)
          have g4 : (0 : Int) ≤ (i : Int) + 1 := by omega
          go_upto_region 9 with (fail)
          rcases hdp : dpd (ev x i) (ev x (i + 1)) with _ | _
          rotate_left
          · rw [hdp] at DP
            have HJ2 := Lib.hid (HJ.out.skip hdp)
            clear hdp
            apply wp_region_relH (H := []) 10 [(Sum.inl _ : TT), (Sum.inl _ : TT), (Sum.inl _ : TT), (Sum.inl _ : TT), (Sum.inl _ : TT), (Sum.inl _ : TT), (Sum.inl _ : TT), (Sum.inl _ : TT), (Sum.inl _ : TT), (Sum.inl _ : TT)] (by kernel_rfl) (by kernel_rfl) (fun _ _ _ _ _ h => h) rfl
            simp only [List.take_succ_cons, List.take_zero, List.drop_succ_cons, List.drop_zero]
            iterate 9 (apply rel_isS; (intro W hW hf; obtain ⟨⟨hx1, hx2, hx3⟩, hx4, hx5, hx6⟩ := T.out W hW; go_simp; first | exact ⟨StayS.refl _ _, rfl⟩ | rfl); simp only [Act.put, List.setIfInBounds_toArray, List.set_cons_succ, List.set_cons_zero])
            apply rel_isS
            · intro W hW hf
              exact rel_callS hW rfl (by go_simp <;> first | rfl | exact ⟨rfl, rfl⟩ | exact ⟨rfl, rfl, rfl⟩) (DP.out W)
            simp only [Act.put, List.setIfInBounds_toArray, List.set_cons_succ, List.set_cons_zero]
            refine rel_endS ?_
            intro W hW hf
            try simp only [Act.put, List.setIfInBounds_toArray, List.set_cons_succ, List.set_cons_zero]
            refine wpList_nil ?_
            have HW := Lib.hid hW
            clear hW hf
            go_wp2_with fail
            go_roundw
            case rel => exact ⟨i + 1, L2, vs2, ls2, by omega, by go_num, HLL.out, hLm2, own_below HO.out HW.out, HT.out.below HW.out, HJ2.out, HX.out.below HW.out, HB.out.trans (HW.out.mono HB.out.size)⟩
            case measure => simp [intOf]; omega
          · rw [hdp] at DP
            have HDP := Lib.hid hdp
            clear hdp
            apply wp_region_relH (H := []) 10 [(Sum.inl _ : TT), (Sum.inl _ : TT), (Sum.inl _ : TT), (Sum.inl _ : TT), (Sum.inl _ : TT), (Sum.inl _ : TT), (Sum.inl _ : TT), (Sum.inl _ : TT), (Sum.inl _ : TT), (Sum.inl _ : TT)] (by kernel_rfl) (by kernel_rfl) (fun _ _ _ _ _ h => h) rfl
            simp only [List.take_succ_cons, List.take_zero, List.drop_succ_cons, List.drop_zero]
            iterate 9 (apply rel_isS; (intro W hW hf; obtain ⟨⟨hx1, hx2, hx3⟩, hx4, hx5, hx6⟩ := T.out W hW; go_simp; first | exact ⟨StayS.refl _ _, rfl⟩ | rfl); simp only [Act.put, List.setIfInBounds_toArray, List.set_cons_succ, List.set_cons_zero])
            apply rel_isS
            · intro W hW hf
              exact rel_callS hW rfl (by go_simp <;> first | rfl | exact ⟨rfl, rfl⟩ | exact ⟨rfl, rfl, rfl⟩) (DP.out W)
            simp only [Act.put, List.setIfInBounds_toArray, List.set_cons_succ, List.set_cons_zero]
            refine rel_endS ?_
            intro W hW hf
            try simp only [Act.put, List.setIfInBounds_toArray, List.set_cons_succ, List.set_cons_zero]
            refine wpList_nil ?_
            have HW := Lib.hid hW
            have HEW := Lib.hid ((HXE.out.below hW).more hW.size)
            have TW := Lib.hid (fun W' (h : Below W.heap.size W W') => T.out W' (hW.trans (h.mono hW.size)))
            have HBW := Lib.hid (HB.out.trans (hW.mono HB.out.size))
            have HOW := Lib.hid (own_below HO.out hW)
            have HTW := Lib.hid (HT.out.below hW)
            have HXW := Lib.hid (HX.out.below hW)
            have hbW : b < W.heap.size := Nat.lt_of_lt_of_le hb0 hW.size
            clear hW hf HW HO HT HX HB DP T HXE hb0
            go_upto_region 11 with (at_builtin; refine wpList_append_srcS ES3 rfl (.tmp 42) (.tmp 43) rfl W.heap.size _ 0 [] rfl (owns0S W _ _ _ (Nat.le_refl _)) W.heap.size (some ⟨b, o, none⟩) (evcells x) q cx rfl (by rw [evcells_length, HXL.out]) ((HEW.out.rd).keep fun b o hb => World.cell?_alloc_lt _ _ _ hb) (fun h => by cases h) (evcells_one x) (by omega) (by omega) W (Nat.le_refl _) (below_alloc _ _) ?_; intro v' w12 h2 h3 h4 h5; clear h4 h5; rw [Nat.zero_add, List.nil_append] at h2; obtain ⟨g, c9, cur, rfl, hg1, hg, hc1, hsz, htk⟩ := own_cut h2 (by omega); have HBX := Lib.hid h3; clear h2 h3)
            obtain ⟨⟨r1, r2, r3⟩, r4, r5, r6⟩ := TW.out w12 HBX.out
            have hbg : b ≠ g := by omega
            have hgb : g ≠ b := fun e => hbg e.symm
            have rd : ∀ j u, (evcells x)[j]? = some u → w12.cell? ⟨g, j, none⟩ = some u := fun j u hu => by
              rw [cell_blk hg]
              rw [← htk, List.getElem?_take] at hu
              split at hu
              · simpa using hu
              · cases hu
            have gt : ∀ j, j < q * 3 → (evcells x)[j]? = some (evc (ev x (j / 3)) (j % 3)) := fun j hj => evcells_get x j (by have := HXL.out; omega)
            have s1 := rd (i * 3) _ (gt _ (by omega))
            have s2 := rd (i * 3 + 1) _ (gt _ (by omega))
            have s3 := rd (i * 3 + 2) _ (gt _ (by omega))
            have s4 := rd ((i + 1) * 3) _ (gt _ (by omega))
            have s5 := rd ((i + 1) * 3 + 1) _ (gt _ (by omega))
            have s6 := rd ((i + 1) * 3 + 2) _ (gt _ (by omega))
            have fz : ∀ j, w12.frozen? ⟨g, j, none⟩ = false := fun j => free_blk hg j
            have HCUR := Lib.hid hg
            have HTK := Lib.hid htk
            have HSZ := Lib.hid hsz
            clear rd gt hg htk hsz
            go_region
            have HSW := Lib.hid (sw6_evs (B := w12.heap.size) HCUR.out HTK.out HXL.out.symm hlt2 (by have := HSZ.out; have := Nat.mul_le_mul_right 3 hc1; omega) (lt_blk HCUR.out))
            have HGR := Lib.hid (sw6_grown w12 g i (i + 1) (ev x i) (ev x (i + 1)))
            have HTY := Lib.hid (sw6_typ (a := i) (b := i + 1) (x := ev x i) (y := ev x (i + 1)) HCUR.out)
            unfold sw6 at HSW HGR HTY
            generalize hW13 : World.drew _ = w13 at *
            have HBY : Hid (Below W.heap.size W w13) := Lib.hid (HBX.out.grown HGR.out HBX.out.size (by intro q e; injection e with e; omega))
            have HY : Hid (TrV w13 w.heap.size q (.slice (some ⟨g, 0, none⟩) q c9) (swL x i)) := Lib.hid ⟨_, _, rfl, by rw [swL_length]; exact HXL.out, hc1, (fun h => by cases h), HSW.out.more HGR.out.size, fun b o z hb => by
              injection hb with hb
              injection hb with hb _ _
              subst hb
              obtain ⟨cur', h⟩ := HTY.out
              exact .inr (.inr ⟨cur', _, h⟩)⟩
            have HB3 := Lib.hid (HBW.out.trans (HBY.out.mono HBW.out.size))
            have HO3 := Lib.hid (own_below HOW.out HBY.out)
            have HT3 := Lib.hid (HTW.out.below HBY.out)
            have HX3 := Lib.hid (HXW.out.below HBY.out)
            have HE3 := Lib.hid (HSW.out.more HGR.out.size)
            obtain ⟨y, hy⟩ : ∃ y, y = swL x i := ⟨_, rfl⟩
            have HYE := Lib.hid hy
            rw [← hy] at HY HE3
            have HYL : Hid (q = y.length) := Lib.hid (by rw [hy, swL_length, HXL.out])
            clear r1 r2 r3 r4 r5 r6 s1 s2 s3 s4 s5 s6 fz hW13 HBW HOW HTW HXW HBX HSW HGR HTY HCUR HTK HSZ HEW TW hy HBY hbg hgb
            go_wp2_with fail
            go_loopw [11, 12] (fun sv kv wr => ∃ t : Nat, t ≤ L2 ∧ kv = .int .i64 (t : Nat) ∧ sv = .bool (decide (y ∈ ls2.take t)) ∧ Below w13.heap.size w13 wr) (fun _ kv _ => L2 - (intOf kv).toNat)
            case atStart => exact ⟨0, by omega, by go_num, by simp, Below.refl _ _⟩
            case round =>
              obtain ⟨t, ht, rfl, rfl, hb⟩ := hrel
              have HB4 := Lib.hid hb
              clear hb
              by_cases hlt3 : t < L2
              · obtain ⟨v, hv, hx⟩ := HT3.out.2 t (by rw [← HLL.out]; exact hlt3)
                obtain ⟨z, hze⟩ : ∃ z, z = ls2.getD t [] := ⟨_, rfl⟩
                have HMN := Lib.hid (mem_take_next (y := y) (ls := ls2) (t := t) (by rw [← HLL.out]; exact hlt3))
                rw [← hze] at hx HMN
                have HZL := Lib.hid hx.len
                obtain ⟨Az, cz, rfl, _, hcz, _, hzv, _⟩ := hx
                have HZV := Lib.hid ((hzv.below HB4.out).more HB4.out.size)
                obtain ⟨_, _, e, hr, _⟩ := own_rd HO3.out
                injection e with e1 _ e2
                subst e1 e2
                obtain ⟨b7, o7, rfl, hb7, e7⟩ := hr t _ hv
                have c7x := (HB4.out.cell (p := ⟨b7, o7 + t, none⟩) hb7).trans e7
                have HE4 := Lib.hid (HE3.out.step4 HB4.out)
                clear hze hv hzv hr e7
                cases hd : decide (y ∈ ls2.take t)
                · have HS := Lib.hid (same_evs z y q q HZL.out.symm HYL.out (by omega) (by omega) Az (some ⟨g, 0, none⟩) cz c9 wr.heap.size wr HZV.out HE4.out (Nat.le_refl _))
                  rw [hd, Bool.false_or] at HMN
                  rw [← HMN.out] at HS
                  clear hd HMN
                  go_wp2_with fail
                  with_reducible refine HS.out.mono ?_
                  rintro e w5 ⟨rfl, hb5⟩
                  have HB5 := Lib.hid (HB4.out.trans (hb5.mono HB4.out.size))
                  clear hb5
                  go_wp2_with fail
                  go_roundw
                  case rel => exact ⟨t + 1, by omega, by go_num, rfl, HB5.out⟩
                  case measure => simp [intOf]; omega
                · rw [hd, Bool.true_or] at HMN
                  clear hd
                  go_wp2_with fail
                  go_roundw
                  case rel => exact ⟨t + 1, by omega, by go_num, by rw [HMN.out], HB4.out⟩
                  case measure => simp [intOf]; omega
              · obtain rfl : t = L2 := by omega
                have HTAKE : Hid (ls2.take t = ls2) := Lib.hid (by rw [HLL.out, List.take_length])
                rw [HTAKE.out]
                have HO5 := Lib.hid (own_below HO3.out HB4.out)
                have HT5 := Lib.hid (HT3.out.below HB4.out)
                have HX5 := Lib.hid (HX3.out.below HB4.out)
                have HY5 := Lib.hid (HY.out.below HB4.out)
                have HB5 := Lib.hid (HB3.out.trans (HB4.out.mono HB3.out.size))
                cases hd : decide (y ∈ ls2)
                · have HJ5 : Hid (AllJ a k (i + 1) x (ls2 ++ [y])) := Lib.hid (by rw [HYE.out]; exact HJ.out.add (by rw [HXL.out]; exact hlt2) HDP.out)
                  have HLL5 : Hid (t + 1 = (ls2 ++ [y]).length) := Lib.hid (by rw [List.length_append, ← HLL.out]; rfl)
                  clear hd HJ HDP HT3 HX3 HY HB3 HO3 HB4
                  by_cases hbig : t + 1 ≤ mst
                  · go_wp2_with (at_builtin; refine wpList_append_one0 EE2 rfl (.tmp 78) (.tmp 80) rfl w.heap.size (.slice (some ⟨g, 0, none⟩) q c9) rfl _ t vs2 rfl HO5.out rfl (by omega) (by omega) w (Nat.le_refl _) HB5.out ?_; intro v6 w6 h2 h3 h4 h5; clear h5; obtain ⟨A8, c8, rfl, _⟩ := own_rd h2; have O6 := Lib.hid h2; have HB6 := Lib.hid h3; have HT6 := Lib.hid (HT5.out.grown HO5.out h4); have HX6 := Lib.hid (HX5.out.grown HO5.out h4); have HY6 := Lib.hid (HY5.out.grown HO5.out h4); clear h2 h3 h4)
                    go_roundw
                    case rel => exact ⟨i + 1, t + 1, vs2 ++ [.slice (some ⟨g, 0, none⟩) q c9], ls2 ++ [y], by omega, by go_num, HLL5.out, hbig, O6.out, HT6.out.snoc HY6.out, HJ5.out, HX6.out, HB6.out⟩
                    case measure => simp [intOf]; omega
                  · go_wp2_with (at_builtin; refine wpList_append_one0 EE2 rfl (.tmp 78) (.tmp 80) rfl w.heap.size (.slice (some ⟨g, 0, none⟩) q c9) rfl _ t vs2 rfl HO5.out rfl (by omega) (by omega) w (Nat.le_refl _) HB5.out ?_; intro v6 w6 h2 h3 h4 h5; clear h5; obtain ⟨A8, c8, rfl, _⟩ := own_rd h2; have O6 := Lib.hid h2; have HB6 := Lib.hid h3; clear h2 h3 h4)
                    go_ret2
                    exact ⟨HB6.out, .inl rfl⟩
                · have HJ5 : Hid (AllJ a k (i + 1) x ls2) := Lib.hid (HJ.out.met (by rw [← HYE.out]; exact of_decide_eq_true hd))
                  clear hd
                  go_wp2_with fail
                  go_roundw
                  case rel => exact ⟨i + 1, t, vs2, ls2, by omega, by go_num, HLL.out, hLm2, HO5.out, HT5.out, HJ5.out, HX5.out, HB5.out⟩
                  case measure => simp [intOf]; omega
        · have HJ2 := Lib.hid (HJ.out.close (by rw [HXL.out]; omega))
          go_wp2_with fail
          go_roundw
          case rel => exact ⟨k + 1, L2, vs2, ls2, by go_num, HLL.out, hLm2, HO.out, HT.out, HJ2.out, HB.out⟩
          case measure => simp [intOf]; omega
    · have hk : k = L := by have := HI.out.le; rw [← HLL.out] at this; omega
      subst hk
      have HD := Lib.hid (fun b => AllI.done (HLL.out ▸ HI.out) b)
      go_wp2_with fail
      go_ret2
      exact ⟨HB.out, .inr ⟨_, _, _, vs, ls, rfl, HLL.out, hLm, HR.out, HT.out, HD.out⟩⟩
end Go.Proofs.Ytaalinhkikmfaaa
end

section
set_option linter.unusedSimpArgs false
set_option linter.unusedVariables false
namespace Go.Proofs.Ytaalinhkikmfaaa
open Go.RowKit

theorem wrong_tq {l m : List Ev} {n : Int} (h : Tq l m) (hw : wrongE l n = 0) : wrongE m n = 0 := by
  induction h with
  | refl => exact hw
  | step _ hs ih =>
    obtain ⟨i, hi, _, rfl⟩ := sw_swL hs
    exact wrong_swL ih i hi
theorem leastE_same {l m : List Ev} (h : Tq l m) : leastE m = leastE l := (leastE_iff.2 h).symm
theorem first_least {l m : List Ev} (h : Tq l m) : first (leastE l) m = true := by
  rw [← leastE_same h]
  exact lf_first (leastE_lf m)
set_option maxRecDepth 100000 in
set_option maxHeartbeats 16000000 in
theorem normall_walk (a b : List Ev) (q r : Nat) (hq : q = a.length) (hr : r = b.length) (A A' : Option Addr) (c c' : Nat) (n : Int) (w : World) (hA : Evs w w.heap.size A a) (hA0 : A = none → q = 0) (hqc : q ≤ c) (hA' : Evs w w.heap.size A' b) (hrc : r ≤ c') (hq2 : q ≤ 140737488351232) (hr2 : r ≤ 140737488351232) :
    Calls Try.prog 6 #[.slice A q c, .slice A' r c', .int .i64 n] w fun e w' => e = .returned (.bool true) ∧ Below w.heap.size w w' := by
  have HA := Lib.hid hA; have HA0 := Lib.hid hA0; have HA' := Lib.hid hA'; have HQ := Lib.hid hq; have HR := Lib.hid hr; have HQC := Lib.hid hqc; have HRC := Lib.hid hrc
  clear hA hA0 hA' hq hr
  go_enter Try.func6, Try.ntmps6
  go_wp2_with fail
  refine (known15 w).mono ?_
  rintro e w1 ⟨rfl, hb1⟩
  have HB1 := Lib.hid hb1
  have HA1 := Lib.hid (HA.out.step4 hb1)
  have HC1 := Lib.hid (HA'.out.step4 hb1)
  clear hb1
  by_cases hq7 : 7 < q
  · go_wp2_with fail
    go_ret
    exact ⟨rfl, HB1.out⟩
  by_cases hr7 : 7 < r
  · go_wp2_with fail
    go_ret
    exact ⟨rfl, HB1.out⟩
  have HL := Lib.hid (least_any a q HQ.out (by omega) n A c HQC.out w1 HA1.out)
  go_wp2_with fail
  with_reducible refine HL.out.mono ?_
  rintro e w2 ⟨hb2, hcase⟩
  have HB2 := Lib.hid (HB1.out.trans (hb2.mono HB1.out.size))
  have HA2 := Lib.hid (HA1.out.step4 hb2)
  have HC2 := Lib.hid (HC1.out.step4 hb2)
  have HV := Lib.hid (least_any b r HR.out (by omega) n A' c' HRC.out w2 HC2.out)
  clear hb2 HL
  rcases hcase with ⟨hw, rfl⟩ | ⟨hw, x, rfl, hx, _⟩
  · have d1 : (((wrongE a n : Nat) : Int) != 0) = true := by rw [bne_iff_ne]; omega
    generalize wrongE a n = we at *
    clear hw
    go_wp2_with fail
    with_reducible refine HV.out.mono ?_
    rintro e w3 ⟨hb3, ⟨_, rfl⟩ | ⟨_, x, rfl, _, _⟩⟩
    · have HB3 := Lib.hid (HB2.out.trans (hb3.mono HB2.out.size))
      clear hb3 HV
      go_wp2_with fail
      go_ret
      exact ⟨rfl, HB3.out⟩
    · have HB3 := Lib.hid (HB2.out.trans (hb3.mono HB2.out.size))
      clear hb3 HV
      go_wp2_with fail
      go_ret
      exact ⟨rfl, HB3.out⟩
  have HWR := Lib.hid hw
  rw [← HQ.out] at hx
  obtain ⟨Ax, cx, rfl, hrx, _, _⟩ := own_rd hx
  have HX := Lib.hid hrx
  clear hw hx hrx
  go_wp2_with fail
  with_reducible refine HV.out.mono ?_
  rintro e w3 ⟨hb3, ⟨hw, rfl⟩ | ⟨hw, x3, rfl, _, _⟩⟩
  · have HB3 := Lib.hid (HB2.out.trans (hb3.mono HB2.out.size))
    have d1 : (((wrongE b n : Nat) : Int) != 0) = true := by rw [bne_iff_ne]; omega
    generalize wrongE b n = we at *
    clear hb3 HV hw
    go_wp2_with fail
    go_ret
    exact ⟨rfl, HB3.out⟩
  have HWB := Lib.hid hw
  have HB3 := Lib.hid (HB2.out.trans (hb3.mono HB2.out.size))
  have HA3 := Lib.hid (HA2.out.step4 hb3)
  have HC3 := Lib.hid (HC2.out.step4 hb3)
  have HX3 := Lib.hid ((HX.out.below hb3).more hb3.size)
  clear hb3 HV hw HX HA2 HC2
  have HT1 := Lib.hid (at_any a q HQ.out (by omega) A c (leastX a) (leastX_gr a).dn (by rw [leastX_len]; exact HQ.out) Ax cx w3.heap.size w3 HA3.out HX3.out (Nat.le_refl _))
  go_wp2_with fail
  with_reducible refine HT1.out.mono ?_
  rintro e w4 ⟨A4, c4, rfl, he4, h04, hc4, hb4⟩
  have HB4 := Lib.hid (HB3.out.trans (hb4.mono HB3.out.size))
  have HA4 := Lib.hid (HA3.out.step4 hb4)
  have HC4 := Lib.hid (HC3.out.step4 hb4)
  have HE4 := Lib.hid (show Evs w4 w4.heap.size A4 (leastE a) from he4)
  clear he4 h04 hc4 hb4 HT1 HA3 HC3 HX3
  have HAL := Lib.hid (all_any a q HQ.out (by omega) 6000 (by omega) (by omega) A c HQC.out w4 HA4.out HA0.out)
  rw [show ((6000 : Nat) : Int) = 6000 from rfl] at HAL
  go_wp2_with fail
  with_reducible refine HAL.out.mono ?_
  rintro e w5 ⟨hb5, rfl | ⟨A5, c5, L, vs, ls, rfl, hL, hLm, hr5, ht5, hm5⟩⟩
  · have HB5 := Lib.hid (HB4.out.trans (hb5.mono HB4.out.size))
    clear hb5
    go_wp2_with fail
    go_ret
    exact ⟨rfl, HB5.out⟩
  have HB5 := Lib.hid (HB4.out.trans (hb5.mono HB4.out.size))
  have HA5 := Lib.hid (HA4.out.step4 hb5)
  have HC5 := Lib.hid (HC4.out.step4 hb5)
  have HE5 := Lib.hid (HE4.out.step4 hb5)
  have HR5 := Lib.hid hr5; have HT5 := Lib.hid ht5; have HM5 := Lib.hid hm5; have HLL := Lib.hid hL
  have HLE : Hid (q = (leastE a).length) := Lib.hid (by rw [leastE_len]; exact HQ.out)
  clear hb5 hr5 ht5 hm5 hL HAL HA4 HC4 HE4
  go_wp2_with fail
  go_loopw [15, 16] (fun sv kv wr => ∃ t : Nat, t ≤ L ∧ kv = .int .i64 (t : Nat) ∧ sv = .bool (decide (b ∈ ls.take t)) ∧ Below w5.heap.size w5 wr) (fun _ kv _ => L - (intOf kv).toNat)
  case atStart => exact ⟨0, by omega, by go_num, by simp, Below.refl _ _⟩
  case round =>
    obtain ⟨t, ht, rfl, rfl, hb⟩ := hrel
    have HB6 := Lib.hid hb
    clear hb
    by_cases hlt : t < L
    · obtain ⟨v, hv, hx⟩ := HT5.out.2 t (by rw [← HLL.out]; exact hlt)
      obtain ⟨z, hze⟩ : ∃ z, z = ls.getD t [] := ⟨_, rfl⟩
      have HMN := Lib.hid (mem_take_next (y := b) (ls := ls) (t := t) (by rw [← HLL.out]; exact hlt))
      have HTZ : Hid (Tq a z) := Lib.hid ((HM5.out z).1 (by
        have h : t < ls.length := by rw [← HLL.out]; exact hlt
        rw [hze, List.getD_eq_getElem?_getD, List.getElem?_eq_getElem h, Option.getD_some]
        exact List.getElem_mem _))
      rw [← hze] at hx HMN
      have HZL := Lib.hid hx.len
      obtain ⟨Az, cz, rfl, _, hcz, _, hzv, _⟩ := hx
      have HCZ := Lib.hid hcz
      have HZV := Lib.hid ((hzv.below HB6.out).more HB6.out.size)
      obtain ⟨b7, o7, rfl, hb7, e7⟩ := HR5.out t _ hv
      have T : Hid (∀ W, Below wr.heap.size wr W → W.cell? ⟨b7, o7 + t, none⟩ = some (.slice Az q cz)) := Lib.hid (fun W hW => ((HB6.out.trans (hW.mono HB6.out.size)).cell (p := ⟨b7, o7 + t, none⟩) hb7).trans e7)
      have hc0 := T.out wr (Below.refl _ _)
      have HE6 := Lib.hid (HE5.out.step4 HB6.out)
      have HC6 := Lib.hid (HC5.out.step4 HB6.out)
      have HWZ : Hid (wrongE z n = 0) := Lib.hid (wrong_tq HTZ.out HWR.out)
      have HL6 := Lib.hid (least_any z q HZL.out.symm (by omega) n Az cz HCZ.out wr HZV.out)
      clear hze hv hzv e7 hcz
      go_wp2_with fail
      with_reducible refine HL6.out.mono ?_
      rintro e w7 ⟨hb7', ⟨h, _⟩ | ⟨_, x7, rfl, hx7, _⟩⟩
      · exact absurd HWZ.out h
      rw [HZL.out] at hx7
      obtain ⟨A7, c7, rfl, hr7, _, _⟩ := own_rd hx7
      have HR7 := Lib.hid hr7
      have HY7 := Lib.hid hb7'
      have HE7 := Lib.hid (HE6.out.step4 hb7')
      have HC7 := Lib.hid (HC6.out.step4 hb7')
      have HZ7 := Lib.hid (HZV.out.step4 hb7')
      have hc1 := T.out w7 hb7'
      have HT8 := Lib.hid (at_any z q HZL.out.symm (by omega) Az cz (leastX z) (leastX_gr z).dn (by rw [leastX_len]; exact HZL.out.symm) A7 c7 w7.heap.size w7 HZ7.out HR7.out (Nat.le_refl _))
      clear hb7' hx7 hr7 hc0 HE6 HC6 HZV HL6
      go_wp2_with fail
      with_reducible refine HT8.out.mono ?_
      rintro e w8 ⟨A8, c8, rfl, he8, h08, hc8, hb8⟩
      have HY8 := Lib.hid (HY7.out.trans (hb8.mono HY7.out.size))
      have HE8 := Lib.hid (HE7.out.step4 hb8)
      have HC8 := Lib.hid (HC7.out.step4 hb8)
      have HZ8 := Lib.hid (HZ7.out.step4 hb8)
      have HO8 := Lib.hid (show Evs w8 w8.heap.size A8 (leastE z) from he8)
      rw [leastE_same HTZ.out] at HO8
      have HS9 := Lib.hid (same_evs (leastE a) (leastE a) q q HLE.out HLE.out (by omega) (by omega) A8 A4 c8 c4 w8.heap.size w8 HO8.out HE8.out (Nat.le_refl _))
      rw [decide_eq_true (rfl : leastE a = leastE a)] at HS9
      clear he8 h08 hc8 hb8 HT8 HE7 HC7 HZ7 hc1
      go_wp2_with fail
      with_reducible refine HS9.out.mono ?_
      rintro e w9 ⟨rfl, hb9⟩
      have HY9 := Lib.hid (HY8.out.trans (hb9.mono HY8.out.size))
      have HE9 := Lib.hid (HE8.out.step4 hb9)
      have HC9 := Lib.hid (HC8.out.step4 hb9)
      have HZ9 := Lib.hid (HZ8.out.step4 hb9)
      have hc2 := T.out w9 HY9.out
      have HF := Lib.hid (first_any (leastE a) z q HLE.out HZL.out.symm (by omega) A4 Az c4 cz w9.heap.size w9 HE9.out HZ9.out (Nat.le_refl _))
      rw [first_least HTZ.out] at HF
      clear hb9 HS9 HE8 HC8 HZ8 HO8
      go_wp2_with fail
      with_reducible refine HF.out.mono ?_
      rintro e w10 ⟨rfl, hb10⟩
      have HY10 := Lib.hid (HY9.out.trans (hb10.mono HY9.out.size))
      have HC10 := Lib.hid (HC9.out.step4 hb10)
      have HZ10 := Lib.hid (HZ9.out.step4 hb10)
      have hc3 := T.out w10 HY10.out
      clear hb10 HF HE9 HC9 HZ9 hc2
      cases hd : decide (b ∈ ls.take t)
      · have HS := Lib.hid (same_evs z b q r HZL.out.symm HR.out (by omega) (by omega) Az A' cz c' w10.heap.size w10 HZ10.out HC10.out (Nat.le_refl _))
        rw [hd, Bool.false_or] at HMN
        rw [← HMN.out] at HS
        clear hd HMN
        go_wp2_with fail
        with_reducible refine HS.out.mono ?_
        rintro e w11 ⟨rfl, hb11⟩
        have HB11 := Lib.hid (HB6.out.trans ((HY10.out.trans (hb11.mono HY10.out.size)).mono HB6.out.size))
        clear hb11
        go_wp2_with fail
        go_roundw
        case rel => exact ⟨t + 1, by omega, by go_num, rfl, HB11.out⟩
        case measure => simp [intOf]; omega
      · have HB11 := Lib.hid (HB6.out.trans (HY10.out.mono HB6.out.size))
        rw [hd, Bool.true_or] at HMN
        clear hd
        go_wp2_with fail
        go_roundw
        case rel => exact ⟨t + 1, by omega, by go_num, by rw [HMN.out], HB11.out⟩
        case measure => simp [intOf]; omega
    · obtain rfl : t = L := by omega
      have HTAKE : Hid (ls.take t = ls) := Lib.hid (by rw [HLL.out, List.take_length])
      rw [HTAKE.out]
      have HB7 := Lib.hid (HB5.out.trans (HB6.out.mono HB5.out.size))
      have HQ8 := Lib.hid (equivalent_any a b q r HQ.out HR.out (by omega) (by omega) n A A' c c' HQC.out HRC.out wr (HA5.out.step4 HB6.out) (HC5.out.step4 HB6.out))
      have he : eqAns a b n = decide (b ∈ ls) := by
        rw [eqAns_tq HWR.out HWB.out]
        exact decide_eq_decide.2 (leastE_iff.trans (HM5.out b).symm)
      rw [he] at HQ8
      clear he
      generalize decide (b ∈ ls) = d at *
      go_wp2_with fail
      with_reducible refine HQ8.out.mono ?_
      rintro e w12 ⟨rfl, hb12⟩
      have HB12 := Lib.hid (HB7.out.trans (hb12.mono HB7.out.size))
      clear hb12
      go_wp2_with fail
      go_ret
      exact ⟨rfl, HB12.out⟩
theorem normall_row (a : List Ev) (A : Option Addr) (c : Nat) (b : List Ev) (A' : Option Addr) (c' : Nat) (n : Int) (w : World) (hA : Evs w w.heap.size A a) (hA0 : A = none → a.length = 0) (hl : a.length ≤ 140737488351232) (hcap : a.length ≤ c) (hA' : Evs w w.heap.size A' b) (_ : A' = none → b.length = 0) (hl' : b.length ≤ 140737488351232) (hcap' : b.length ≤ c')
    (_ : (-9223372036854775808 : Int) ≤ n ∧ n ≤ 9223372036854775807) :
    Calls Try.prog 6 #[.slice A a.length c, .slice A' b.length c', .int .i64 n] w fun e w' => e = .returned (.bool true) ∧ Below w.heap.size w w' :=
  normall_walk a b _ _ rfl rfl A A' c c' n w hA hA0 hcap hA' hcap' hl hl'
end Go.Proofs.Ytaalinhkikmfaaa
end
