/- several texts in one: lists of slices of bytes., lists of slices of bytes. -/
import Derived.Test.YtegekaocbalndaaGreatDoorSl
import Derived.Test.YtegekaocbalndaaGreatDoorOf
section
set_option linter.unusedSimpArgs false
set_option linter.unusedVariables false
namespace Go.Proofs.YtegekaocbalndaaGreatDoor
open Go.RowKit

/-- a slice of slices that reads as ls. -/
def Ls (w : World) (B : Nat) (A : Option Addr) (ls : List (List UInt8)) : Prop :=
  ∀ i, i < ls.length → ∃ b off, A = some ⟨b, off, none⟩ ∧ b < B ∧ ∃ Ai ci, w.cell? ⟨b, off + i, none⟩ = some (.slice Ai (ls.getD i []).length ci) ∧ Bs w B Ai (ls.getD i []) ∧ (Ai = none → ls.getD i [] = [])
theorem Ls.keep {w w' : World} {B : Nat} {A : Option Addr} {ls : List (List UInt8)} (h : Ls w B A ls) (hk : ∀ b o, b < B → w'.cell? ⟨b, o, none⟩ = w.cell? ⟨b, o, none⟩) : Ls w' B A ls := fun i hi => by
  obtain ⟨b, off, e, hb, Ai, ci, hc, h1, h2⟩ := h i hi
  exact ⟨b, off, e, hb, Ai, ci, (hk b _ hb).trans hc, h1.keep hk, h2⟩
theorem Ls.below {w w' : World} {B : Nat} {A : Option Addr} {ls : List (List UInt8)} (h : Ls w B A ls) (hb : Below B w w') : Ls w' B A ls := h.keep fun b o hbB => hb.cell (p := ⟨b, o, none⟩) hbB
theorem Ls.more {w : World} {B B' : Nat} {A : Option Addr} {ls : List (List UInt8)} (h : Ls w B A ls) (hB : B ≤ B') : Ls w B' A ls := fun i hi => by
  obtain ⟨b, off, e, hb, Ai, ci, hc, h1, h2⟩ := h i hi
  exact ⟨b, off, e, by omega, Ai, ci, hc, h1.more hB, h2⟩
end Go.Proofs.YtegekaocbalndaaGreatDoor
end

section
set_option linter.unusedSimpArgs false
set_option linter.unusedVariables false
namespace Go.Proofs.YtegekaocbalndaaGreatDoor
open Go.RowKit

theorem Ls.rows {w : World} {B B' n : Nat} {v : Value} {vs : List Value} {ls : List (List UInt8)} {e : TypeId} (h : w.ownsRow B e 1 v n vs) (hr : Rows8 w B' vs ls) (hn : n = ls.length) : ∃ A c, v = .slice A ls.length c ∧ Ls w w.heap.size A ls ∧ n ≤ c ∧ (A = none → ls = []) := by
  subst hn
  obtain ⟨A, c, rfl, hrd, h0, hc⟩ := own_rd h
  refine ⟨A, c, rfl, fun i hi => ?_, hc, fun e => List.eq_nil_of_length_eq_zero (h0 e)⟩
  have hl := hr.len
  have hi' : i < vs.length := by omega
  obtain ⟨b, off, e, hb, hcell⟩ := hrd i (vs.getD i undef) (by rw [List.getD_eq_getElem?_getD, List.getElem?_eq_getElem hi']; rfl)
  obtain ⟨Ai, ci, e2, hri, hni, _⟩ := own_rd (hr.row i hi)
  rw [e2] at hcell
  exact ⟨b, off, e, hb, Ai, ci, hcell, hri.bs, fun e => List.eq_nil_of_length_eq_zero (hni e)⟩
def OneP (l : List UInt8) (w : World) (e : Ending) (w' : World) : Prop :=
  Below w.heap.size w w' ∧ ((oneL l = none ∧ e = .returned (.tuple #[.slice none 0 0, .int .i64 4])) ∨ (∃ r v, oneL l = some r ∧ e = .returned (.tuple #[v, .int .i64 0]) ∧ w'.ownsRow w.heap.size 5 1 v r.length (bcells r)))
set_option maxRecDepth 100000 in
set_option maxHeartbeats 2000000 in
theorem one_any (l : List UInt8) (hl : l.length ≤ 1000000) (A : Option Addr) (cap : Nat) (w : World) (hA : Bs w w.heap.size A l) (hcap : l.length ≤ cap) :
    Calls Tryz.prog 55 #[.slice A l.length cap] w (OneP l w) := by
  go_enter Tryz.func55, Tryz.ntmps55
  go_wp2_with fail
  refine (next_any l (by omega) A cap w.heap.size w hA (Nat.le_refl _) hcap).mono ?_
  rintro e w1 ⟨A1, c1, rfl, hbs, hnil, hb1⟩
  have Hb1 := Lib.hid hb1; have Hbs := Lib.hid hbs; have Hnil := Lib.hid hnil
  clear hbs hnil hb1
  have Ho : Hid (oneL l = if (nextL l).2.2 = 0 ∧ (nextL l).2.1 = l.length then some (nextL l).1 else none) := Lib.hid rfl
  rcases hnx : nextL l with ⟨r, n, how⟩
  rw [hnx] at Hbs Hnil Ho
  dsimp only at Hbs Hnil Ho ⊢
  have Hnx := Lib.hid hnx
  clear hnx
  by_cases h0 : how = 0
  · subst h0
    have hw := next_whole Hnx.out
    obtain rfl : n = r.length + 12 := hw.1
    have hr1 : r.length + 12 ≤ 1000000 := Nat.le_trans hw.2.2.1 hl
    clear hw
    by_cases hn : r.length + 12 = l.length
    · have d1 : ((r.length : Int) + 12 != (l.length : Int)) = false := by rw [bne_eq_false_iff_eq]; omega
      have Hs : Hid (oneL l = some r) := Lib.hid (by rw [Ho.out, if_pos ⟨rfl, hn⟩])
      clear hn
      go_wp2_with (at_builtin; refine wpList_append_src E5 rfl (.tmp 21) (.tmp 22) rfl w1.heap.size _ 0 [] rfl (owns0 w1 _ _ (Nat.le_refl _)) w1.heap.size A1 (bcells r) r.length c1 rfl (bcells_length _) ((Hbs.out.more Hb1.out.size).rd.alloc0 _) (fun h => by rw [Hnil.out h]; rfl) (bcells_one _) (by omega) (by omega) w1 (Nat.le_refl _) (below_alloc _ _) ?_; intro v2 w2 h2 h3 h4 h5; clear h4 h5; rw [Nat.zero_add, List.nil_append] at h2; have H2 := Lib.hid h2; have H3 := Lib.hid h3; clear h2 h3)
      go_ret2
      exact ⟨Hb1.out.trans (H3.out.mono Hb1.out.size), .inr ⟨r, v2, Hs.out, rfl, own_base H2.out Hb1.out.size⟩⟩
    · have d1 : ((r.length : Int) + 12 != (l.length : Int)) = true := by rw [bne_iff_ne]; omega
      have Hs : Hid (oneL l = none) := Lib.hid (by rw [Ho.out, if_neg (fun h => hn h.2)])
      go_wp2_with fail
      go_ret2
      exact ⟨Hb1.out, .inl ⟨Hs.out, rfl⟩⟩
  · have d0 : ((how : Int) != 0) = true := by rw [bne_iff_ne]; omega
    have Hs : Hid (oneL l = none) := Lib.hid (by rw [Ho.out, if_neg (fun h => h0 h.1)])
    go_wp2_with fail
    go_ret2
    exact ⟨Hb1.out, .inl ⟨Hs.out, rfl⟩⟩
end Go.Proofs.YtegekaocbalndaaGreatDoor
end
