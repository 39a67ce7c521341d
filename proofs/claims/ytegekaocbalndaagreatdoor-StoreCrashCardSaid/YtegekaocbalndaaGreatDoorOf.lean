/- the records of bytes. -/
import Derived.Test.YtegekaocbalndaaGreatDoorOe
import Derived.Test.YtegekaocbalndaaGreatDoorSl
set_option linter.unusedSimpArgs false
set_option linter.unusedVariables false
namespace Go.Proofs.YtegekaocbalndaaGreatDoor
open Go.RowKit

theorem E46 : El Tryz.prog 31 30 (.slice none 0 0) 24 := ⟨Tryz.underlying31, by kernel_rfl, rfl⟩
/-- slices that own rows of bytes, no two of them one row. -/
structure Rows8 (w : World) (B : Nat) (vs : List Value) (ls : List (List UInt8)) : Prop where
  len : vs.length = ls.length
  row : ∀ i, i < ls.length → w.ownsRow B 5 1 (vs.getD i undef) (ls.getD i []).length (bcells (ls.getD i []))
  apart : ∀ i j, i < j → j < ls.length → ∀ g, (vs.getD i undef).ownBlock = some g → (vs.getD j undef).ownBlock ≠ some g
theorem Rows8.nil (w : World) (B : Nat) : Rows8 w B [] [] := ⟨rfl, fun i h => by simp at h, fun i j _ h => by simp at h⟩
theorem Rows8.keep {w w' : World} {B : Nat} {vs : List Value} {ls : List (List UInt8)} (h : Rows8 w B vs ls) (hk : ∀ i, i < ls.length → w'.ownsRow B 5 1 (vs.getD i undef) (ls.getD i []).length (bcells (ls.getD i []))) : Rows8 w' B vs ls := ⟨h.len, hk, h.apart⟩
theorem Rows8.below {w w' : World} {B : Nat} {vs : List Value} {ls : List (List UInt8)} (h : Rows8 w B vs ls) (hb : Below w.heap.size w w') : Rows8 w' B vs ls := h.keep fun i hi => own_below (h.row i hi) hb
/-- a row of another type is written: these stay. -/
theorem own_grown {w w' : World} {B B' n m : Nat} {e e' : TypeId} {v u : Value} {xs ys : List Value} (h : w.ownsRow B e 1 v n xs) (ho : w.ownsRow B' e' 1 u m ys) (hne : e ≠ e') (hg : w.grownBy w' u.ownBlock) : w'.ownsRow B e 1 v n xs := by
  refine h.kept hg ?_
  rcases h.2 with ⟨rfl, _⟩ | ⟨g, cap, cur, rfl, _, hgg, _⟩
  · exact .inl rfl
  · refine .inr ?_
    rcases ho.2 with ⟨rfl, _⟩ | ⟨g', cap', cur', rfl, _, hgg', _⟩
    · simp [Value.ownBlock]
    · simp only [Value.ownBlock]
      intro e2
      injection e2 with e2
      subst e2
      rw [hgg] at hgg'
      injection hgg' with e3
      injection e3 with _ e4
      exact hne e4
theorem Rows8.grown {w w' : World} {B B' m : Nat} {e : TypeId} {u : Value} {ys : List Value} {vs : List Value} {ls : List (List UInt8)} (h : Rows8 w B vs ls) (ho : w.ownsRow B' e 1 u m ys) (hne : 5 ≠ e) (hg : w.grownBy w' u.ownBlock) : Rows8 w' B vs ls :=
  h.keep fun i hi => own_grown (h.row i hi) ho hne hg
theorem getD_app_left {α : Type} (l r : List α) (i : Nat) (d : α) (h : i < l.length) : (l ++ r).getD i d = l.getD i d := by simp [List.getD_eq_getElem?_getD, List.getElem?_append_left h]
theorem getD_app_at {α : Type} (l : List α) (x d : α) : (l ++ [x]).getD l.length d = x := by simp
theorem Rows8.snoc {w : World} {B : Nat} {vs : List Value} {ls : List (List UInt8)} {v : Value} {l : List UInt8} (h : Rows8 w B vs ls) (hv : w.ownsRow B 5 1 v l.length (bcells l)) (hnew : ∀ i g, i < ls.length → (vs.getD i undef).ownBlock = some g → v.ownBlock ≠ some g) : Rows8 w B (vs ++ [v]) (ls ++ [l]) := by
  have hl := h.len
  refine ⟨by simp [hl], fun i hi => ?_, fun i j hij hj g hg => ?_⟩
  · by_cases e : i < ls.length
    · rw [getD_app_left _ _ _ _ e, getD_app_left _ _ _ _ (by omega)]; exact h.row i e
    · obtain rfl : i = ls.length := by simp at hi; omega
      rw [getD_app_at, ← hl, getD_app_at]; exact hv
  · by_cases e : j < ls.length
    · rw [getD_app_left _ _ _ _ (by omega)] at hg ⊢
      exact h.apart i j hij e g hg
    · obtain rfl : j = ls.length := by simp at hj; omega
      rw [← hl, getD_app_at]
      rw [getD_app_left _ _ _ _ (by omega)] at hg
      exact hnew i g hij hg
theorem Bs.drop' {w : World} {B b off : Nat} {l : List UInt8} (h : Bs w B (some ⟨b, off, none⟩) l) (k : Nat) : Bs w B (some ⟨b, off + k, none⟩) (l.drop k) := by
  have := h.seg k (l.length - k)
  rwa [show Go.Proofs.YtegekaocbalndaaGreatDoor.seg l k (l.length - k) = l.drop k by unfold Go.Proofs.YtegekaocbalndaaGreatDoor.seg; rw [List.take_of_length_le (by simp)]] at this
def ScanP (l : List UInt8) (w : World) (e : Ending) (w' : World) : Prop :=
  ∃ v vs, e = .returned (.tuple #[v, .int .i64 ((scanL l).2.1 : Nat), .int .i64 ((scanL l).2.2 : Nat)]) ∧ w'.ownsRow w.heap.size 30 1 v (scanL l).1.length vs ∧ Rows8 w' w.heap.size vs (scanL l).1 ∧ Below w.heap.size w w'
theorem ScanP.mk {l : List UInt8} {w w' : World} {e : Ending} {ls : List (List UInt8)} {n how : Nat} (h : scanL l = (ls, n, how)) {v : Value} {vs : List Value} {m : Nat} (he : e = .returned (.tuple #[v, .int .i64 (n : Nat), .int .i64 (how : Nat)])) (ho : w'.ownsRow w.heap.size 30 1 v m vs) (hm : m = ls.length) (hr : Rows8 w' w.heap.size vs ls) (hb : Below w.heap.size w w') : ScanP l w e w' := by
  subst hm
  refine ⟨v, vs, ?_, ?_, ?_, hb⟩ <;> rw [h]
  · exact he
  · exact ho
  · exact hr
theorem next_at (l : List UInt8) (n : Nat) (hn : n = l.length) (hl : n ≤ 100000000) (A : Option Addr) (cap B : Nat) (w : World) (hA : Bs w B A l) (hB : B ≤ w.heap.size) (hcap : n ≤ cap) :
    Calls Tryz.prog 79 #[.slice A n cap] w (NextP l B w) := by
  subst hn; exact next_any l hl A cap B w hA hB hcap
theorem scan_step {l : List UInt8} {k : Nat} {ls : List (List UInt8)} (h : scanL l = (ls ++ (scanL (l.drop k)).1, k + (scanL (l.drop k)).2.1, (scanL (l.drop k)).2.2)) {r : List UInt8} {n : Nat} (hn : nextL (l.drop k) = (r, n, 0)) :
    scanL l = ((ls ++ [r]) ++ (scanL (l.drop (k + n))).1, (k + n) + (scanL (l.drop (k + n))).2.1, (scanL (l.drop (k + n))).2.2) := by
  rw [h, scan_whole hn, List.drop_drop]; simp [Nat.add_assoc]
set_option maxRecDepth 100000 in
set_option maxHeartbeats 2000000 in
theorem scan_any (l : List UInt8) (hl : l.length ≤ 1000000) (A : Option Addr) (cap : Nat) (w : World) (hA : Bs w w.heap.size A l) (hcap : l.length ≤ cap) :
    Calls Tryz.prog 62 #[.slice A l.length cap] w (ScanP l w) := by
  have HA := Lib.hid hA
  clear hA
  go_enter Tryz.func62, Tryz.ntmps62
  go_wp2_with fail
  go_loopw [5, 6] (fun out at_ wr => ∃ (k : Nat) (ls : List (List UInt8)) (vs : List Value), k ≤ l.length ∧ at_ = .int .i64 k ∧ scanL l = (ls ++ (scanL (l.drop k)).1, k + (scanL (l.drop k)).2.1, (scanL (l.drop k)).2.2) ∧
    wr.ownsRow w.heap.size 30 1 out ls.length vs ∧ Rows8 wr w.heap.size vs ls ∧ ls.length ≤ k ∧ Below w.heap.size w wr) (fun _ i _ => l.length - (intOf i).toNat)
  case atStart => exact ⟨0, [], [], by omega, rfl, by simp, World.ownsRow_nil _ _ _ _, Rows8.nil _ _, by simp, Below.refl _ _⟩
  case round =>
    obtain ⟨k, ls, vs, hk, rfl, hs, hown, hrow, hlk, hb⟩ := hrel
    have Hs := Lib.hid hs; have Hown := Lib.hid hown; have Hrow := Lib.hid hrow; have Hb := Lib.hid hb
    clear hs hown hrow hb
    by_cases hlt : k < l.length
    · obtain ⟨b, off, rfl, hbl, _⟩ := HA.out k hlt
      have Hd : Hid (Bs wr w.heap.size (some ⟨b, off + k, none⟩) (l.drop k)) := Lib.hid ((HA.out.below Hb.out).drop' k)
      go_wp2_with fail
      refine (next_at (l.drop k) _ (by simp) (by omega) _ _ w.heap.size wr Hd.out Hb.out.size (by omega)).mono ?_
      rintro e w1 ⟨A1, c1, rfl, hbs, hnil, hb1⟩
      have Hb1 := Lib.hid hb1; have Hbs := Lib.hid hbs; have Hnil := Lib.hid hnil
      clear hbs hnil hb1
      rcases hnx : nextL (l.drop k) with ⟨r, n, how⟩
      rw [hnx] at Hbs Hnil
      have Hnx := Lib.hid hnx
      clear hnx
      dsimp only at Hbs Hnil ⊢
      have Hown1 := Lib.hid (own_below Hown.out Hb1.out)
      have Hrow1 := Lib.hid (Hrow.out.below Hb1.out)
      have HB1 := Lib.hid (Hb.out.trans (Hb1.out.mono Hb.out.size))
      by_cases h0 : how = 0
      · subst h0
        have hw := next_whole Hnx.out
        obtain rfl : n = r.length + 12 := hw.1
        have hn2 : k + (r.length + 12) ≤ l.length := by have := hw.2.2.1; simp at this; omega
        have hr1 : r.length ≤ 1000000 := by omega
        clear hw
        go_wp2_with (first
          | (at_builtin; refine wpList_append_src E5 rfl (.tmp 28) (.tmp 29) rfl w1.heap.size _ 0 [] rfl (owns0 w1 _ _ (Nat.le_refl _)) w1.heap.size A1 (bcells r) r.length c1 rfl (bcells_length _) ((Hbs.out.more HB1.out.size).rd.alloc0 _) (fun h => by rw [Hnil.out h]; rfl) (bcells_one _) (by omega) (by omega) w1 (Nat.le_refl _) (below_alloc _ _) ?_
             intro v2 w2 h2 h3 h4 h5; clear h4 h5
             rw [Nat.zero_add, List.nil_append] at h2
             obtain ⟨A2, c2, rfl, _, _, _⟩ := own_rd h2
             have Hv2 := Lib.hid h2
             have Hown2 := Lib.hid (own_below Hown1.out h3); have Hrow2 := Lib.hid (Hrow1.out.below h3); have H12 := Lib.hid h3
             have HB2 := Lib.hid (HB1.out.trans (h3.mono HB1.out.size)); clear h2 h3)
          | (at_builtin; refine wpList_append_one0 E46 rfl (.tmp 27) (.tmp 31) rfl w.heap.size (.slice A2 r.length c2) rfl _ ls.length vs rfl Hown2.out rfl (by omega) (by omega) w (Nat.le_refl _) HB2.out ?_
             intro v3 w3 h2 h3 h4 h5; clear h5; have H2 := Lib.hid h2; have H3 := Lib.hid h3; have H4 := Lib.hid h4; clear h2 h3 h4))
        have hv3 : Hid (w2.ownsRow w.heap.size 5 1 (.slice A2 r.length c2) r.length (bcells r)) := Lib.hid (own_base Hv2.out HB1.out.size)
        have hnew : Hid (∀ i g, i < ls.length → (vs.getD i undef).ownBlock = some g → (Value.slice A2 r.length c2).ownBlock ≠ some g) := Lib.hid (fun i g hi hg hg2 => by
          have h1 := World.ownsRow.lt (Hrow1.out.row i hi) g hg
          have h2 := World.ownsRow.lt Hv2.out g hg2
          omega)
        have hrows := (Hrow2.out.grown Hown2.out (by decide) H4.out).snoc (own_grown hv3.out Hown2.out (by decide) H4.out) hnew.out
        exact ⟨⟨k + (r.length + 12), ls ++ [r], vs ++ [.slice A2 r.length c2], hn2, by go_num, scan_step Hs.out Hnx.out, by simpa using H2.out, hrows, by simp; omega, H3.out⟩, by simp [intOf]; omega⟩
      · have Hst : Hid (scanL l = (ls, k, how)) := Lib.hid (by
          rw [Hs.out, scan_stop (fun e => by have := congrArg List.length e; simp at this; omega) Hnx.out h0]; simp)
        have d0 : ((how : Int) != 0) = true := by rw [bne_iff_ne]; omega
        go_wp2_with fail
        go_ret3
        exact ScanP.mk Hst.out rfl Hown1.out rfl Hrow1.out HB1.out
    · obtain rfl : k = l.length := by omega
      have Hst : Hid (scanL l = (ls, l.length, 0)) := Lib.hid (by rw [Hs.out, List.drop_length, scan_nil]; simp)
      go_wp2_with fail
      go_ret3
      exact ScanP.mk Hst.out rfl Hown.out rfl Hrow.out Hb.out
end Go.Proofs.YtegekaocbalndaaGreatDoor
