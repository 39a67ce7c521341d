/- what is scanned of any bytes is framed again as these. -/
import Derived.Test.YtblccebcmfpjeaaOi
set_option linter.unusedSimpArgs false
set_option linter.unusedVariables false
namespace Go.Proofs.Ytblccebcmfpjeaa
open Go.RowKit

theorem Bs.pref {w : World} {B : Nat} {A : Option Addr} {l : List UInt8} (h : Bs w B A l) (n : Nat) : Bs w B A (l.take n) := fun j hj => by
  have hj' : j < n ∧ j < l.length := by simp at hj; omega
  obtain ⟨b, off, e, hb, hc⟩ := h j hj'.2
  exact ⟨b, off, e, hb, by rw [hc]; simp [List.getD_eq_getElem?_getD, List.getElem?_take, hj'.1]⟩
theorem getD_mem {α : Type} (l : List α) (i : Nat) (d : α) (h : i < l.length) : l.getD i d ∈ l := by
  rw [List.getD_eq_getElem?_getD, List.getElem?_eq_getElem h]; simp
set_option maxRecDepth 100000 in
set_option maxHeartbeats 4000000 in
theorem again_walk (l : List UInt8) (A : Option Addr) (cap : Nat) (w : World) (hA : Bs w w.heap.size A l) (hA0 : A = none → l = []) (hcap : l.length ≤ cap) :
    Calls Try.prog 4 #[.slice A l.length cap] w fun e w' => e = .returned (.bool true) ∧ Below w.heap.size w w' := by
  have HA := Lib.hid hA; have HA0 := Lib.hid hA0
  clear hA hA0
  go_enter Try.func4, Try.ntmps4
  go_wp2_with fail
  refine (awake_any w).mono ?_
  rintro e w1 ⟨rfl, hb1⟩
  have HB1 := Lib.hid hb1
  clear hb1
  by_cases h3 : l.length ≤ 3000
  · have HA1 := Lib.hid ((HA.out.below HB1.out).more HB1.out.size)
    go_wp2_with fail
    refine (scan_any l (by omega) A cap w1 HA1.out hcap).mono ?_
    rintro e w2 ⟨v, vs, rfl, ho, hr, hb2⟩
    obtain ⟨A2, c2, rfl, hls, _, _⟩ := Ls.rows ho hr rfl
    have HLs := Lib.hid hls
    have HB2 := Lib.hid (HB1.out.trans (hb2.mono HB1.out.size))
    have hag := scan_again l.length l (Nat.le_refl _)
    clear ho hr hls hb2
    rcases hsc : scanL l with ⟨ls, n, how⟩
    rw [hsc] at hag HLs
    dsimp only at hag HLs ⊢
    clear hsc
    obtain ⟨a1, a2, a3, a4, a5⟩ := hag
    have a6 : (framesL ls).length = n := by rw [a1]; simp; omega
    have Ha1 := Lib.hid a1; have Ha5 := Lib.hid a5; have Ha6 := Lib.hid a6
    have hll : ls.length ≤ 3000 := by
      have : ∀ xs : List (List UInt8), xs.length ≤ (framesL xs).length := fun xs => by
        induction xs with
        | nil => simp
        | cons x xs ih => rw [frames_cons, List.length_append, frame_length, List.length_cons]; omega
      have := this ls; omega
    have Htk : Hid (∀ k, (framesL (ls.take k)).length ≤ 3000) := Lib.hid (fun k => by
      have : framesL ls = framesL (ls.take k) ++ framesL (ls.drop k) := by rw [← frames_app, List.take_append_drop]
      have := congrArg List.length this
      rw [List.length_append] at this; omega)
    clear a1 a5 a6
    go_wp2_with fail
    go_loopw [7, 8] (fun ag i wr => ∃ k : Nat, k ≤ ls.length ∧ i = .int .i64 k ∧ wr.ownsRow w2.heap.size 5 1 ag (framesL (ls.take k)).length (bcells (framesL (ls.take k))) ∧ Below w2.heap.size w2 wr) (fun _ i _ => ls.length - (intOf i).toNat)
    case atStart => exact ⟨0, by omega, rfl, by simpa [framesL, bcells] using World.ownsRow_nil w2 w2.heap.size 5 1, Below.refl _ _⟩
    case round =>
      obtain ⟨k, hk, rfl, ho, hb⟩ := hrel
      have Hb := Lib.hid hb
      have htk := Htk.out k
      obtain ⟨A3, c3, rfl, hr3, hn3, hc3⟩ := own_rd ho
      have Ho := Lib.hid ho; have R3 := Lib.hid hr3; have N3 := Lib.hid hn3
      clear ho hb hr3 hn3
      by_cases hlt : k < ls.length
      · obtain ⟨b, off, rfl, hbl, Ai, ci, hc, hbs, hz⟩ := HLs.out k hlt
        have hcell := (Hb.out.cell (p := ⟨b, off + k, none⟩) hbl).trans hc
        have Hbs : Hid (Bs wr wr.heap.size Ai (ls.getD k [])) := Lib.hid ((hbs.below Hb.out).more Hb.out.size)
        have Hz := Lib.hid hz
        have Hft := Lib.hid (frames_take ls k hlt)
        have hrl := Ha5.out _ (getD_mem ls k [] hlt)
        clear hc hbs hz
        generalize ls.getD k [] = r at *
        go_wp2_with fail
        refine (frame_at r _ rfl hrl Ai ci wr Hbs.out Hz.out).mono ?_
        rintro e w3 ⟨v3, rfl, h1, hb1⟩
        have Ho1 := Lib.hid (own_below Ho.out hb1)
        have HB3 := Lib.hid (Hb.out.trans (hb1.mono Hb.out.size))
        obtain ⟨A4, c4, rfl, hr4, hn4, _⟩ := own_rd h1
        have R4 := Lib.hid hr4; have N4 := Lib.hid hn4
        clear h1 hb1 hr4 hn4
        go_wp2_with (at_builtin; refine wpList_append_src E5 rfl (.tmp 38) (.tmp 39) rfl w2.heap.size _ (framesL (ls.take k)).length _ rfl Ho1.out w3.heap.size A4 (bcells (frameL r)) (r.length + 12) c4 rfl (by rw [bcells_length, frame_length]) R4.out N4.out (bcells_one _) (by omega) (by omega) w2 (Nat.le_refl _) HB3.out ?_; intro v6 w6 h2 h3 h4 h5; clear h4 h5; have O6 := Lib.hid h2; have HB6 := Lib.hid h3; clear h2 h3)
        go_roundw
        case rel => exact ⟨k + 1, by omega, by go_num, by rw [Hft.out, List.length_append, frame_length, bcells_app]; exact O6.out, HB6.out⟩
        case measure => simp [intOf]; omega
      · obtain rfl : k = ls.length := by omega
        rw [List.take_length] at R3 N3 ⊢
        rw [Ha6.out] at N3 ⊢
        have HAw := Lib.hid ((HA.out.below (HB2.out.trans (Hb.out.mono HB2.out.size))).pref n)
        have Hl1 : Hid ((l.take n).length = n) := Lib.hid (by simp; omega)
        have HBw := Lib.hid (HB2.out.trans (Hb.out.mono HB2.out.size))
        have Hcap := Lib.hid hcap
        have Hnn : Hid (n ≤ cap) := Lib.hid (by omega)
        have hnc : (n : Int) ≤ cap := by omega
        have hn0 : (0 : Int) ≤ n := by omega
        have Hsm : Hid (∀ W, W = wr → Calls Try.prog 14 #[.slice A3 n c3, .slice A n cap] W fun e W' => e = .returned (.bool true) ∧ W = W') := Lib.hid (fun W hW => by
          subst hW
          exact (same_bytes (framesL ls) (l.take n) A3 A n n c3 cap W W.heap.size w.heap.size Ha6.out.symm Hl1.out.symm R3.out.bs (nil_ne (fun h => by rw [Ha6.out]; exact N3.out h)) HAw.out (fun h => by rw [HA0.out h]; simp)).mono fun e W' ⟨h1, h2⟩ => ⟨by rw [h1, decide_eq_true Ha1.out], h2⟩)
        have hh : how = 0 ∨ how = 1 ∨ how = 2 := by omega
        have hx : ((how : Int) == 0) = ((n : Int) == (l.length : Int)) := by
          rw [Bool.eq_iff_iff, beq_iff_eq, beq_iff_eq]
          have e1 : ((how : Int) = 0) ↔ (how = 0) := by omega
          have e2 : ((n : Int) = (l.length : Int)) ↔ n = l.length := by omega
          rw [e1, e2]; exact a3
        clear a3 htk
        rcases A with _ | ⟨b, off, sp⟩
        all_goals
          go_wp2_with fail
          refine (Hsm.out _ rfl).mono ?_
          rintro e w7 ⟨rfl, rfl⟩
          go_wp2_with fail
          go_ret
          exact ⟨ret_bool (by rw [decide_eq_true_iff]; omega), HBw.out⟩
  · go_wp2_with fail
    go_ret
    exact ⟨rfl, HB1.out⟩
end Go.Proofs.Ytblccebcmfpjeaa
