/- race.locked. -/
import Derived.Test.YtkcpoebepiipoaaGm
import Derived.Test.YtkcpoebepiipoaaGe
import Derived.Test.YtkcpoebepiipoaaCd
set_option linter.unusedSimpArgs false
set_option linter.unusedVariables false
namespace Go.Proofs.Ytkcpoebepiipoaa
open Go.RowKit

theorem EM : El Try.prog 64 66 (.map none) 8 := ⟨Try.underlying64, by kernel_rfl, rfl⟩
def mapv (b : Nat) : Value := .map (some b)
/-- a row of sets: of each event which ones are by locks ahead of it. -/
def LockR (w : World) (B : Nat) (l : List Ev) (m : Nat) (v : Value) (bs : List Nat) : Prop :=
  w.ownsRow B 66 1 v m (bs.map mapv) ∧ bs.length = m ∧ ∀ j, j < m → ∃ b, bs[j]? = some b ∧ B ≤ b ∧ MapS w b (fun k => lk l k j)
theorem MapS.not_row {w : World} {b : Nat} {S : Nat → Bool} (h : MapS w b S) {B e n : Nat} {v : Value} {xs : List Value} (ho : w.ownsRow B e 1 v n xs) : some b ≠ v.ownBlock := by
  obtain ⟨D, ⟨es, c, h1, _⟩, _⟩ := h
  intro hb
  rcases ho.2 with ⟨rfl, _⟩ | ⟨g, cap, cur, rfl, _, hg, _⟩
  · simp [Value.ownBlock] at hb
  · simp only [Value.ownBlock, Option.some.injEq] at hb
    subst hb
    rw [h1] at hg; cases hg
theorem LockR.ext {w w' : World} {B : Nat} {l : List Ev} {m : Nat} {v : Value} {bs : List Nat} (h : LockR w B l m v bs) (hb : Below w.heap.size w w') : LockR w' B l m v bs :=
  ⟨own_below h.1 hb, h.2.1, fun j hj => by
    obtain ⟨b, h1, h2, h3⟩ := h.2.2 j hj
    exact ⟨b, h1, h2, h3.ext hb⟩⟩
theorem LockR.turned {w w' : World} {B b0 : Nat} {l : List Ev} {m : Nat} {v : Value} {bs : List Nat} {S : Nat → Bool} (h : LockR w B l m v bs) (hb : w.grownBy w' (some b0)) (h0 : MapS w b0 S) (hne : ∀ b ∈ bs, b ≠ b0) : LockR w' B l m v bs :=
  ⟨h.1.kept hb (.inr fun e => h0.not_row h.1 e.symm), h.2.1, fun j hj => by
    obtain ⟨b, h1, h2, h3⟩ := h.2.2 j hj
    exact ⟨b, h1, h2, h3.kept hb (fun e => hne b (List.mem_of_getElem? h1) (by injection e))⟩⟩
def LockP (l : List Ev) (m : Nat) (w : World) (e : Ending) (w' : World) : Prop := ∃ v bs, e = .returned v ∧ LockR w' w.heap.size l m v bs ∧ Below w.heap.size w w'

set_option maxRecDepth 100000 in
set_option maxHeartbeats 4000000 in
theorem locked_any (l : List Ev) (m : Nat) (hm : m = l.length) (hl : m ≤ 2000) (A : Option Addr) (cap : Nat) (w : World) (hA : Evs w w.heap.size A l) :
    Calls Try.prog 32 #[.slice A m cap] w (LockP l m w) := by
  have HA := Lib.hid hA; have HM := Lib.hid hm
  clear hA hm
  have hmm := @run_makeMap Try.prog
  go_enter Try.func32, Try.ntmps32
  go_wp2_with fail
  go_loopw [3, 10] (fun ov jv wr => ∃ (j : Nat) (bs : List Nat), j ≤ m ∧ jv = .int .i64 j ∧ LockR wr w.heap.size l j ov bs ∧ Below w.heap.size w wr) (fun _ jv _ => m - (intOf jv).toNat)
  case atStart => exact ⟨0, [], by omega, rfl, ⟨World.ownsRow_nil _ _ _ _, rfl, fun j hj => by omega⟩, Below.refl _ _⟩
  case round =>
    obtain ⟨j, bs, hj, rfl, hL, hb⟩ := hrel
    have HL := Lib.hid hL; have HB := Lib.hid hb
    clear hL hb
    by_cases hlt : j < m
    · obtain ⟨Ao, co, rfl, hro, _, _⟩ := own_rd HL.out.1
      have HRo := Lib.hid hro
      clear hro
      go_upto_region 7 with (fail)
      have HL1 := Lib.hid (HL.out.ext (below_alloc wr (.map #[] 0)))
      have HS0 := Lib.hid (MapS.made wr)
      have HB1 := Lib.hid (HB.out.trans ((below_alloc wr (.map #[] 0)).mono HB.out.size))
      have HRo1 := Lib.hid (HRo.out.below (below_alloc wr (.map #[] 0)))
      have hbw : w.heap.size ≤ wr.heap.size := HB.out.size
      have HNE : Hid (∀ b ∈ bs, b ≠ wr.heap.size) := Lib.hid (fun b hb he => by
        obtain ⟨i, hi⟩ := List.mem_iff_getElem?.1 hb
        have hij : i < j := by have := (List.getElem?_eq_some_iff.1 hi).1; have := HL.out.2.1; omega
        obtain ⟨b', h1, _, h3⟩ := HL.out.2.2 i hij
        rw [hi] at h1; injection h1 with h1; subst h1
        have := h3.lt; omega)
      generalize hbe : wr.heap.size = bm at *
      generalize hw1 : wr.alloc (.map #[] 0) = w1 at *
      have hs1 : w1.heap.size = bm + 1 := by rw [← hw1, ← hbe]; simp
      clear hw1 HL HB HRo hmm
      go_loopw [15] (fun iv wi => ∃ i : Nat, i ≤ j ∧ iv = .int .i64 i ∧ MapS wi bm (asc (fun a b => fol (ev l a) (ev l b)) j i) ∧ w1.grownBy wi (some bm)) (fun iv _ => j - (intOf iv).toNat)
      case atStart => exact ⟨0, by omega, rfl, HS0.out.congr fun k => rfl, ⟨rfl, rfl, rfl, Nat.le_refl _, fun _ _ _ => rfl⟩⟩
      case round =>
        obtain ⟨i, hi, rfl, hS, hg⟩ := hrel
        have HS := Lib.hid hS; have HG := Lib.hid hg
        clear hS hg
        by_cases hlt2 : i < j
        · have him : i < m := by omega
          have HBi : Hid (Below w.heap.size w wr) := Lib.hid (HB1.out.grown HG.out (by omega) (fun k e => by cases e; exact hbw))
          obtain ⟨b, off, rfl, hbl, c1, c2, c3⟩ := HA.out i (by rw [← HM.out]; exact him)
          obtain ⟨_, _, e3, _, d1, d2, d3⟩ := HA.out j (by rw [← HM.out]; exact hlt)
          injection e3 with e3; injection e3 with e1 e2; subst e1 e2
          have HC : Hid (∀ W, Below wr.heap.size wr W → W.cell? ⟨b, off + i * 3, none⟩ = some (.int .i64 (ev l i).t) ∧ W.cell? ⟨b, off + i * 3 + 1, none⟩ = some (.int .i64 (ev l i).k) ∧ W.cell? ⟨b, off + i * 3 + 2, none⟩ = some (.int .i64 (ev l i).o) ∧ W.cell? ⟨b, off + j * 3, none⟩ = some (.int .i64 (ev l j).t) ∧ W.cell? ⟨b, off + j * 3 + 1, none⟩ = some (.int .i64 (ev l j).k) ∧ W.cell? ⟨b, off + j * 3 + 2, none⟩ = some (.int .i64 (ev l j).o)) :=
            Lib.hid fun W h => by
              have h' := HBi.out.trans (h.mono HBi.out.size)
              exact ⟨(h'.cell (p := ⟨b, _, none⟩) hbl).trans c1, (h'.cell (p := ⟨b, _, none⟩) hbl).trans c2, (h'.cell (p := ⟨b, _, none⟩) hbl).trans c3, (h'.cell (p := ⟨b, _, none⟩) hbl).trans d1, (h'.cell (p := ⟨b, _, none⟩) hbl).trans d2, (h'.cell (p := ⟨b, _, none⟩) hbl).trans d3⟩
          clear c1 c2 c3 d1 d2 d3
          have HF := Lib.hid (fun W => follows_any (ev l i) (ev l j) W)
          have HK : Hid (∀ W, Below wr.heap.size wr W → (Instr.lookup 66 (.map (some bm)) (.int .i64 (i : Int)) false).run Try.prog W = .ok (.bool false) W) := Lib.hid (fun W h => by
            have h1 := (HS.out.ext h).look i (by omega)
            have h2 : asc (fun a b => fol (ev l a) (ev l b)) j i i = false := by
              cases e : asc (fun a b => fol (ev l a) (ev l b)) j i i with
              | false => rfl
              | true => have := asc_lt e; omega
            rw [h2] at h1; exact h1)
          have HX := Lib.hid (fun k => asc_succ (fun a b => fol (ev l a) (ev l b)) j i k)
          simp only [ev_eta] at HF
          generalize fol (ev l i) (ev l j) = fb at *
          generalize ev l i = ei at *
          generalize ev l j = ej at *
          cases fb
          · go_upto_region 9 with (fail)
            apply wp_region_relH (H := []) 15 [(Sum.inl _ : TT), (Sum.inl _ : TT), (Sum.inl _ : TT), (Sum.inl _ : TT), (Sum.inl _ : TT), (Sum.inl _ : TT), (Sum.inl _ : TT), (Sum.inl _ : TT), (Sum.inl _ : TT), (Sum.inl _ : TT), (Sum.inl _ : TT), (Sum.inl _ : TT), (Sum.inl _ : TT), (Sum.inl _ : TT), (Sum.inl _ : TT)] (by kernel_rfl) (by kernel_rfl) (fun _ _ _ _ _ h => h) rfl
            simp only [List.take_succ_cons, List.take_zero, List.drop_succ_cons, List.drop_zero]
            iterate 8 (apply rel_isS; (intro W hW hf; obtain ⟨x1, x2, x3, y1, y2, y3⟩ := HC.out W hW; go_simp; first | exact ⟨StayS.refl _ _, rfl⟩ | rfl); simp only [Act.put, List.setIfInBounds_toArray, List.set_cons_succ, List.set_cons_zero])
            apply rel_isS
            · intro W hW hf
              exact rel_callS hW rfl (by go_simp <;> first | rfl | exact ⟨rfl, rfl⟩ | exact ⟨rfl, rfl, rfl⟩) ((HF.out W).mono fun e w'' h => ⟨_, h.1, h.2, rfl⟩)
            simp only [Act.put, List.setIfInBounds_toArray, List.set_cons_succ, List.set_cons_zero]
            iterate 6 (apply rel_isS; (intro W hW hf; go_simp; first | exact ⟨StayS.refl _ _, rfl⟩ | rfl); simp only [Act.put, List.setIfInBounds_toArray, List.set_cons_succ, List.set_cons_zero])
            refine rel_endS ?_
            intro W hW hf
            try simp only [Act.put, List.setIfInBounds_toArray, List.set_cons_succ, List.set_cons_zero]
            have HG1 : Hid (w1.grownBy W (some bm)) := Lib.hid (HG.out.andThen (grown_below hW none) (fun j e => by cases e))
            have HS1 := Lib.hid (HS.out.ext hW)
            clear hW hf
            go_wp2_with fail
            go_roundw
            case rel => exact ⟨i + 1, by omega, by go_num, HS1.out.congr fun k => by rw [HX.out]; simp, HG1.out⟩
            case measure => simp [intOf]; omega
          · go_upto_region 9 with (fail)
            apply wp_region_relH (H := []) 15 [(Sum.inl _ : TT), (Sum.inl _ : TT), (Sum.inl _ : TT), (Sum.inl _ : TT), (Sum.inl _ : TT), (Sum.inl _ : TT), (Sum.inl _ : TT), (Sum.inl _ : TT), (Sum.inl _ : TT), (Sum.inl _ : TT), (Sum.inl _ : TT), (Sum.inl _ : TT), (Sum.inl _ : TT), (Sum.inl _ : TT), (Sum.inl _ : TT)] (by kernel_rfl) (by kernel_rfl) (fun _ _ _ _ _ h => h) rfl
            simp only [List.take_succ_cons, List.take_zero, List.drop_succ_cons, List.drop_zero]
            iterate 8 (apply rel_isS; (intro W hW hf; obtain ⟨x1, x2, x3, y1, y2, y3⟩ := HC.out W hW; go_simp; first | exact ⟨StayS.refl _ _, rfl⟩ | rfl); simp only [Act.put, List.setIfInBounds_toArray, List.set_cons_succ, List.set_cons_zero])
            apply rel_isS
            · intro W hW hf
              exact rel_callS hW rfl (by go_simp <;> first | rfl | exact ⟨rfl, rfl⟩ | exact ⟨rfl, rfl, rfl⟩) ((HF.out W).mono fun e w'' h => ⟨_, h.1, h.2, rfl⟩)
            simp only [Act.put, List.setIfInBounds_toArray, List.set_cons_succ, List.set_cons_zero]
            iterate 6 (apply rel_isS; (intro W hW hf; have hlk := HK.out W hW; go_simp; first | exact ⟨StayS.refl _ _, rfl⟩ | rfl); simp only [Act.put, List.setIfInBounds_toArray, List.set_cons_succ, List.set_cons_zero])
            refine rel_endS ?_
            intro W hW hf
            try simp only [Act.put, List.setIfInBounds_toArray, List.set_cons_succ, List.set_cons_zero]
            have HG1 : Hid (w1.grownBy W (some bm)) := Lib.hid (HG.out.andThen (grown_below hW none) (fun j e => by cases e))
            have HS1 := Lib.hid (HS.out.ext hW)
            clear hW hf
            refine wpList_nil ?_
            have hbl1 : bm < W.heap.size := HS1.out.lt
            go_wp2_with (first
              | (at_mapUpdate; refine wpList_put HS1.out rfl _ _ _ rfl rfl i (by omega) rfl rfl ?_; intro w2 h2 h3; have HS2 := Lib.hid h2; have HG2 := Lib.hid (HG1.out.andThen h3 (fun j e => Or.inr e)); have hL2 := HL1.out.turned HG2.out HS0.out HNE.out; obtain ⟨Ar, cr, e5, hr5, _, _⟩ := own_rd hL2.1; injection e5 with e5 _ e6; subst e5 e6; obtain ⟨bi, hbi, hbi2, hbi3⟩ := hL2.2.2 i hlt2; obtain ⟨bo, oo, rfl, hbo, hcell⟩ := hr5 i (mapv bi) (by simp [hbi]); simp only [mapv] at hcell; have HBI := Lib.hid hbi3; have HNI := Lib.hid (HNE.out bi (List.mem_of_getElem? hbi)); clear h2 h3 hL2 hr5 hbi hbi3)
              | (at_range; refine wpList_rangeS HBI.out rfl _ rfl rfl ?_; intro w3 cnt h4 h5 h6; have HR3 := Lib.hid h4; have HG3 := Lib.hid h5; clear h4 h5 h6 hcell))
            have hrb : bm < w2.heap.size := HS2.out.lt
            have HG23 : Hid (w2.grownBy w3 (some bm)) := Lib.hid (HG3.out.but _)
            have HS3 := Lib.hid (HS2.out.kept HG3.out (by simp))
            generalize hr : w2.heap.size = r at *
            go_loopw [7] (fun _ wk => ∃ (L : Nat → Bool) (cnt : Nat), RangeS wk bi r (fun k => lk l k i) L cnt ∧ MapS wk bm (fun k => (asc (fun a b => fol (ev l a) (ev l b)) j i k || decide (k = i)) || (lk l k i && !L k)) ∧ w2.grownBy wk (some bm)) (fun _ wk => wk.rangeLeft bi r)
            case atStart => exact ⟨_, _, HR3.out, HS3.out.congr fun k => by simp, HG23.out⟩
            case round =>
              obtain ⟨L, cn, hR, hS, hg⟩ := hrel
              have HR4 := Lib.hid hR; have HS4 := Lib.hid hS; have HG4 := Lib.hid hg
              clear hR hS hg
              go_wp2_with (at_next; refine wpList_nextS HR4.out rfl _ rfl rfl ?_ ?_)
              · intro hl0
                have HS5 := Lib.hid (HS4.out.congr (S' := asc (fun a b => fol (ev l a) (ev l b)) j (i + 1)) fun k => by rw [HX.out, hl0 k]; simp only [lk]; simp [Bool.or_assoc])
                have HG5 := Lib.hid (HG2.out.andThen HG4.out (fun j e => Or.inr e))
                clear hl0
                go_wp2_with fail
                go_roundw
                case rel => exact ⟨i + 1, by omega, by go_num, HS5.out, HG5.out⟩
                case measure => simp [intOf]; omega
              · intro k w5 cn5 hk5 hSk hLk hR5 hlt5 hg5 hsz5 hen
                have HR5 := Lib.hid hR5
                have HS5 := Lib.hid (HS4.out.kept hg5 (by intro e; injection e with e; omega))
                have HG5 := Lib.hid (HG4.out.andThen hg5 (fun j e => by cases e; exact Or.inl (by omega)))
                have HSk := Lib.hid hSk; have HLk := Lib.hid hLk
                clear hR5 hg5 hsz5 hSk hLk
                go_wp2_with (at_mapUpdate; refine wpList_put HS5.out rfl _ _ _ rfl rfl k hk5 rfl rfl ?_; intro w6 h2 h3; have HS6 := Lib.hid h2; have HG6 := Lib.hid (HG5.out.andThen h3 (fun j e => Or.inr e)); have HR6 := Lib.hid (HR5.out.kept h3 (by intro e; injection e with e; exact HNI.out e) (by intro e; injection e with e; omega)); clear h2 h3; go_frame)
                go_roundw
                case rel =>
                  refine ⟨_, cn5, HR6.out, HS6.out.congr fun y => ?_, HG6.out⟩
                  by_cases e : y = k
                  · subst e; simp [HSk.out]
                  · simp [e]
                case measure => rw [HR6.out.left_eq, HR4.out.left_eq]; exact hlt5
        · obtain rfl : i = j := by omega
          have HLx := Lib.hid (HL1.out.turned HG.out HS0.out HNE.out)
          have HBx : Hid (Below w.heap.size w wr) := Lib.hid (HB1.out.grown HG.out (by omega) (fun k e => by cases e; exact hbw))
          go_wp2_with (at_builtin; refine wpList_append_one0 EM rfl (.tmp 47) (.tmp 49) rfl w.heap.size (mapv bm) rfl _ i (bs.map mapv) rfl HLx.out.1 rfl (by omega) (by omega) w (Nat.le_refl _) HBx.out ?_; intro v5 w5 h2 h3 h4 h5; clear h5; have O5 := Lib.hid h2; have HB5 := Lib.hid h3; have HG5 := Lib.hid h4; clear h2 h3 h4)
          go_roundw
          case rel =>
            refine ⟨i + 1, bs ++ [bm], by omega, by go_num, ⟨by rw [List.map_append]; exact O5.out, by rw [List.length_append, HLx.out.2.1]; rfl, fun j' hj' => ?_⟩, HB5.out⟩
            by_cases e : j' = i
            · subst e
              refine ⟨bm, by rw [List.getElem?_append_right (by have := HLx.out.2.1; omega), HLx.out.2.1]; simp, hbw, ?_⟩
              exact (HS.out.kept HG5.out (HS.out.not_row HLx.out.1)).congr fun k => asc_full _ _ _
            · obtain ⟨b', h1, h2, h3⟩ := HLx.out.2.2 j' (by omega)
              exact ⟨b', by rw [List.getElem?_append_left (by have := HLx.out.2.1; omega)]; exact h1, h2, h3.kept HG5.out (h3.not_row HLx.out.1)⟩
          case measure => simp [intOf]; omega
    · obtain rfl : j = m := by omega
      go_wp2_with fail
      go_ret
      exact ⟨_, bs, rfl, HL.out, HB.out⟩
end Go.Proofs.Ytkcpoebepiipoaa
