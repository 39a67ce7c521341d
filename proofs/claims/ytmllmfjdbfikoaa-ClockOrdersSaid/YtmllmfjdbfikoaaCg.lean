/- clock.Next. -/
import Derived.Test.YtmllmfjdbfikoaaCf
import Derived.Test.YtmllmfjdbfikoaaAs
set_option linter.unusedSimpArgs false
set_option linter.unusedVariables false
namespace Go.Proofs.Ytmllmfjdbfikoaa
open Go.RowKit

theorem ES3 : ElS Try.prog 22 36 (.agg #[.int .i64 0, .int .i64 0, .int .i64 0]) 3 24 := ⟨Try.underlying22, by kernel_rfl, rfl, by decide⟩
def evc (e : Ev) (j : Nat) : Value := if j = 0 then .int .i64 e.t else if j = 1 then .int .i64 e.k else .int .i64 e.o
def evcells (l : List Ev) : List Value := (List.range (l.length * 3)).map fun j => evc (ev l (j / 3)) (j % 3)
theorem evcells_length (l : List Ev) : (evcells l).length = l.length * 3 := by simp [evcells]
theorem evcells_get (l : List Ev) (j : Nat) (h : j < l.length * 3) : (evcells l)[j]? = some (evc (ev l (j / 3)) (j % 3)) := by simp [evcells, h]
theorem evcells_app (l : List Ev) (e : Ev) : evcells (l ++ [e]) = evcells l ++ [.int .i64 e.t, .int .i64 e.k, .int .i64 e.o] := by
  apply List.ext_getElem?
  intro j
  by_cases h : j < l.length * 3
  · rw [evcells_get _ _ (by simp; omega), List.getElem?_append_left (by rw [evcells_length]; exact h), evcells_get _ _ h]
    have : ev (l ++ [e]) (j / 3) = ev l (j / 3) := by unfold ev; rw [List.getD_eq_getElem?_getD, List.getElem?_append_left (by omega), ← List.getD_eq_getElem?_getD]
    rw [this]
  · rw [List.getElem?_append_right (by rw [evcells_length]; omega), evcells_length]
    by_cases h2 : j < l.length * 3 + 3
    · rw [evcells_get _ _ (by simp; omega)]
      have hd : j / 3 = l.length := by omega
      have he : ev (l ++ [e]) (j / 3) = e := by unfold ev; rw [hd]; simp
      rw [he]
      have : j - l.length * 3 = 0 ∨ j - l.length * 3 = 1 ∨ j - l.length * 3 = 2 := by omega
      rcases this with h3 | h3 | h3
      · rw [h3, show j % 3 = 0 by omega]; rfl
      · rw [h3, show j % 3 = 1 by omega]; rfl
      · rw [h3, show j % 3 = 2 by omega]; rfl
    · rw [List.getElem?_eq_none (by rw [evcells_length]; simp; omega), List.getElem?_eq_none (by simp; omega)]
theorem evcells_one (l : List Ev) : ∀ u ∈ evcells l, u.oneCell' = true := by
  intro u hu
  simp only [evcells, List.mem_map] at hu
  obtain ⟨j, _, rfl⟩ := hu
  unfold evc; split <;> (try split) <;> rfl
theorem Evs.rd {w : World} {B : Nat} {A : Option Addr} {l : List Ev} (h : Evs w B A l) : Rd w B A (evcells l) := fun j u hu => by
  have hj : j < l.length * 3 := by
    have := (List.getElem?_eq_some_iff.1 hu).1
    rwa [evcells_length] at this
  rw [evcells_get _ _ hj] at hu
  injection hu with hu
  obtain ⟨b, off, e, hb, h1, h2, h3⟩ := h (j / 3) (by omega)
  refine ⟨b, off, e, hb, ?_⟩
  have : j % 3 = 0 ∨ j % 3 = 1 ∨ j % 3 = 2 := by omega
  rcases this with h4 | h4 | h4
  · rw [h4] at hu; rw [show off + j = off + j / 3 * 3 by omega, h1, ← hu]; rfl
  · rw [h4] at hu; rw [show off + j = off + j / 3 * 3 + 1 by omega, h2, ← hu]; rfl
  · rw [h4] at hu; rw [show off + j = off + j / 3 * 3 + 2 by omega, h3, ← hu]; rfl
theorem Evs.of_rd {w : World} {B : Nat} {A : Option Addr} {l : List Ev} (h : Rd w B A (evcells l)) : Evs w B A l := fun i hi => by
  obtain ⟨b, off, e, hb, h1⟩ := h (i * 3) _ (evcells_get l (i * 3) (by omega))
  obtain ⟨_, _, e2, _, h2⟩ := h (i * 3 + 1) _ (evcells_get l (i * 3 + 1) (by omega))
  obtain ⟨_, _, e3, _, h3⟩ := h (i * 3 + 2) _ (evcells_get l (i * 3 + 2) (by omega))
  rw [e] at e2 e3
  injection e2 with e2; injection e2 with a1 a2; subst a1 a2
  injection e3 with e3; injection e3 with a1 a2; subst a1 a2
  refine ⟨b, off, e, hb, ?_, ?_, ?_⟩
  · rw [h1, show i * 3 / 3 = i by omega, show i * 3 % 3 = 0 by omega]; rfl
  · rw [Nat.add_assoc, h2, show (i * 3 + 1) / 3 = i by omega, show (i * 3 + 1) % 3 = 1 by omega]; rfl
  · rw [Nat.add_assoc, h3, show (i * 3 + 2) / 3 = i by omega, show (i * 3 + 2) % 3 = 2 by omega]; rfl
set_option maxRecDepth 100000 in
set_option maxHeartbeats 1000000 in
theorem copy_events (l : List Ev) (hl : l.length ≤ 1000000) (A : Option Addr) (cap : Nat) (w : World) (hA : Evs w w.heap.size A l) (hA0 : A = none → l.length = 0) :
    Calls Try.prog 16 #[.slice A l.length cap] w fun e w' => ∃ v, e = .returned v ∧ w'.ownsRow w.heap.size 36 3 v l.length (evcells l) ∧ Below w.heap.size w w' := by
  have HA := Lib.hid hA; have HA0 := Lib.hid hA0
  clear hA hA0
  go_enter Try.func16, Try.ntmps16
  go_wp2_with (refine wpList_append_srcS ES3 rfl (.tmp 3) (.tmp 4) rfl w.heap.size _ 0 [] rfl (owns0S w _ _ _ (Nat.le_refl _)) w.heap.size A (evcells l) l.length cap rfl (evcells_length l) ((HA.out.rd).keep fun b o hb => World.cell?_alloc_lt _ _ _ hb) HA0.out (evcells_one l) (by omega) (by omega) w (Nat.le_refl _) (below_alloc _ _) ?_; intro v' w' h2 h3 h4 h5; clear h4 h5; have H2 := Lib.hid h2; have H3 := Lib.hid h3; clear h2 h3)
  go_ret
  exact ⟨v', rfl, by simpa using H2.out, H3.out⟩
set_option maxRecDepth 100000 in
set_option maxHeartbeats 1000000 in
theorem clone_events (l : List Ev) (hl : l.length ≤ 1000000) (A : Option Addr) (cap : Nat) (w : World) (hA : Evs w w.heap.size A l) (hA0 : A = none → l.length = 0) :
    Calls Try.prog 20 #[.slice A l.length cap] w fun e w' => ∃ v, e = .returned v ∧ w'.ownsRow w.heap.size 36 3 v l.length (evcells l) ∧ Below w.heap.size w w' := by
  have HA := Lib.hid hA; have HA0 := Lib.hid hA0
  clear hA hA0
  have q22 : ∀ (w : World) (a : Option Addr) (n c n' c' : Nat), (binOp .eql 22 (.slice a n c) (.slice none n' c')).run Try.prog w = .ok (.bool a.isNone) w := fun w a n c n' c' => Lib.run_eql_slice_nil w _ _ a n c n' c' ES3.ht
  rcases A with _ | a
  · have hl0 := HA0.out rfl
    obtain rfl := List.eq_nil_of_length_eq_zero hl0
    go_enter Try.func20, Try.ntmps20
    go_wp2_with fail
    go_ret
    exact ⟨_, rfl, ⟨rfl, .inl ⟨rfl, rfl⟩⟩, Below.refl _ _⟩
  · go_enter Try.func20, Try.ntmps20
    go_wp2_with (at_builtin; refine wpList_append_srcS ES3 rfl (.tmp 5) (.tmp 6) rfl w.heap.size _ 0 [] rfl (owns0S w _ _ _ (Nat.le_refl _)) w.heap.size (some a) (evcells l) l.length cap rfl (evcells_length l) ((HA.out.rd).keep fun b o hb => World.cell?_alloc_lt _ _ _ hb) (fun h => by cases h) (evcells_one l) (by omega) (by omega) w (Nat.le_refl _) (below_alloc _ _) ?_; intro v' w' h2 h3 h4 h5; clear h4 h5; have H2 := Lib.hid h2; have H3 := Lib.hid h3; clear h2 h3)
    go_ret
    exact ⟨v', rfl, by simpa using H2.out, H3.out⟩
end Go.Proofs.Ytmllmfjdbfikoaa
