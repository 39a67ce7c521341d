/- runs of frames: assizelaw20.run; assizekit.Pick. -/
import Derived.Test.YtblccebcmfpjeaaOh
set_option linter.unusedSimpArgs false
set_option linter.unusedVariables false
namespace Go.Proofs.Ytblccebcmfpjeaa
open Go.RowKit

theorem E25 : El Try.prog 25 3 (.int .i64 0) 8 := ⟨Try.underlying25, by kernel_rfl, rfl⟩
def icells (l : List Nat) : List Value := l.map fun (n : Nat) => Value.int .i64 (n : Int)
def pick (x n : Int) : Int := if n < 1 then 0 else x % n
theorem tmod_emod (x n : Int) (hn : 1 ≤ n) : (0 ≤ x.tmod n ∧ x.tmod n < n ∧ x.tmod n = x % n) ∨ (-n < x.tmod n ∧ x.tmod n < 0 ∧ x.tmod n + n = x % n) := by
  have h1 := Int.emod_nonneg x (show n ≠ 0 by omega)
  have h2 := Int.emod_lt_of_pos x (show 0 < n by omega)
  have h3 := Int.tmod_eq_emod (a := x) (b := n)
  split at h3
  · exact .inl ⟨by omega, by omega, by omega⟩
  · have e : (n.natAbs : Int) = n := by omega
    rw [e] at h3
    by_cases hz : x % n = 0
    · have hd : n ∣ x := Int.dvd_of_emod_eq_zero hz
      rename_i hh
      exact absurd (Or.inr hd) hh
    · exact .inr ⟨by omega, by omega, by omega⟩
set_option maxHeartbeats 400000 in
theorem pick_any (x n : Int) (hx : (-9223372036854775808 : Int) ≤ x ∧ x ≤ 9223372036854775807) (hn : n ≤ 4611686018427387904) (hn2 : -4611686018427387904 ≤ n) (w : World) : Calls Try.prog 10 #[.int .i64 x, .int .i64 n] w fun e w' => e = .returned (.int .i64 (pick x n)) ∧ w = w' := by
  by_cases h1 : n < 1
  · have Hp : Hid (pick x n = 0) := Lib.hid (if_pos h1)
    go_enter Try.func10, Try.ntmps10
    go_wp2_with fail
    go_ret
    exact ⟨by rw [Hp.out]; rfl, rfl⟩
  · have Hp : Hid (pick x n = x % n) := Lib.hid (if_neg h1)
    have ht := tmod_emod x n (by omega)
    have hz : (n == 0) = false := by rw [beq_eq_false_iff_ne]; omega
    rcases ht with ⟨h2, h3, h4⟩ | ⟨h2, h3, h4⟩
    · have H4 := Lib.hid h4
      clear h4
      go_enter Try.func10, Try.ntmps10
      go_wp2_with fail
      go_ret
      exact ⟨by rw [Hp.out, ← H4.out]; rfl, rfl⟩
    · have H4 := Lib.hid h4
      clear h4
      go_enter Try.func10, Try.ntmps10
      go_wp2_with fail
      go_ret
      exact ⟨by rw [Hp.out, ← H4.out]; rfl, rfl⟩
theorem own_rds {w : World} {base n c : Nat} {A : Option Addr} {e : TypeId} {xs : List Value} (h : w.ownsRow base e 1 (.slice A n c) n xs) : Rd w w.heap.size A xs := by
  obtain ⟨A', c', e, h, _⟩ := own_rd h
  injection e with e1 e2 e3
  subst e1
  exact h
/-- where each frame begins, of the first k. -/
def offs (ls : List (List UInt8)) (k : Nat) : List Nat := (List.range k).map fun i => (framesL (ls.take i)).length
theorem offs_snoc (ls : List (List UInt8)) (k : Nat) : offs ls (k + 1) = offs ls k ++ [(framesL (ls.take k)).length] := by simp [offs, List.range_succ]
theorem frames_take (ls : List (List UInt8)) (k : Nat) (h : k < ls.length) : framesL (ls.take (k + 1)) = framesL (ls.take k) ++ frameL (ls.getD k []) := by
  rw [List.take_succ_eq_append_getElem h, frames_app, frames_one, List.getD_eq_getElem?_getD, List.getElem?_eq_getElem h]; rfl
theorem frames_len (ls : List (List UInt8)) (h : ∀ r ∈ ls, r.length ≤ 300) : (framesL ls).length ≤ 312 * ls.length := by
  induction ls with
  | nil => simp [framesL]
  | cons r ls ih =>
    have h1 := ih (fun x hx => h x (List.mem_cons_of_mem _ hx))
    have h2 := h r (by simp)
    rw [frames_cons, List.length_append, frame_length, List.length_cons]; omega
def RunP (ls : List (List UInt8)) (w : World) (e : Ending) (w' : World) : Prop :=
  Below w.heap.size w w' ∧ (e = .returned (.tuple #[.slice none 0 0, .slice none 0 0, .bool false]) ∨
    (ls.length ≤ 20 ∧ (∀ r ∈ ls, r.length ≤ 300) ∧ ∃ v u, e = .returned (.tuple #[v, u, .bool true]) ∧ w'.ownsRow w.heap.size 5 1 v (framesL ls).length (bcells (framesL ls)) ∧ w'.ownsRow w.heap.size 3 1 u (ls.length + 1) (icells (offs ls (ls.length + 1)))))
theorem take_mem_snoc {ls : List (List UInt8)} {k m : Nat} (h : k < ls.length) (h1 : ∀ r ∈ ls.take k, r.length ≤ m) (h2 : (ls.getD k []).length ≤ m) : ∀ r ∈ ls.take (k + 1), r.length ≤ m := by
  rw [List.take_succ_eq_append_getElem h]
  intro r hr
  rcases List.mem_append.1 hr with hr | hr
  · exact h1 r hr
  · simp only [List.mem_singleton] at hr
    subst hr
    simpa [List.getD_eq_getElem?_getD, h] using h2
theorem frame_at (l : List UInt8) (n : Nat) (hn : n = l.length) (hl : n ≤ 65536) (A : Option Addr) (cap : Nat) (w : World) (hA : Bs w w.heap.size A l) (hA0 : A = none → l = []) :
    Calls Try.prog 13 #[.slice A n cap] w fun e w' => ∃ v, e = .returned (.tuple #[v, .int .i64 0]) ∧ w'.ownsRow w.heap.size 5 1 v (n + 12) (bcells (frameL l)) ∧ Below w.heap.size w w' := by
  subst hn; exact frame_any l hl A cap w hA hA0
set_option maxRecDepth 100000 in
set_option maxHeartbeats 2000000 in
theorem run_any (ls : List (List UInt8)) (A : Option Addr) (cap : Nat) (w : World) (hA : Ls w w.heap.size A ls) (hn : ls.length ≤ 140737488351232) (hl : ∀ r ∈ ls, r.length ≤ 140737488351232) : Calls Try.prog 9 #[.slice A ls.length cap] w (RunP ls w) := by
  have HA := Lib.hid hA; have HL := Lib.hid hl
  clear hA hl
  go_enter Try.func9, Try.ntmps9
  by_cases h20 : ls.length ≤ 20
  · go_wp2_with fail
    go_loopw [5, 6, 7] (fun out at_ i wr => ∃ (k : Nat), k ≤ ls.length ∧ i = .int .i64 k ∧ (∀ r ∈ ls.take k, r.length ≤ 300) ∧ wr.ownsRow w.heap.size 5 1 out (framesL (ls.take k)).length (bcells (framesL (ls.take k))) ∧
      wr.ownsRow w.heap.size 3 1 at_ k (icells (offs ls k)) ∧ Below w.heap.size w wr) (fun _ _ i _ => ls.length - (intOf i).toNat)
    case atStart => exact ⟨0, by omega, rfl, by simp, by simpa [framesL, bcells] using World.ownsRow_nil w w.heap.size 5 1, by simpa [icells, offs] using World.ownsRow_nil w w.heap.size 3 1, Below.refl _ _⟩
    case round =>
      obtain ⟨k, hk, rfl, hs, ho, hp, hb⟩ := hrel
      have Hs := Lib.hid hs; have Ho := Lib.hid ho; have Hp := Lib.hid hp; have Hb := Lib.hid hb
      have hfl := frames_len _ hs
      have hfl2 : (framesL (ls.take k)).length ≤ 6240 := by
        have : (ls.take k).length ≤ 20 := by simp; omega
        omega
      obtain ⟨A1, c1, rfl, _, _, _⟩ := own_rd ho
      obtain ⟨A2, c2, rfl, _, _, _⟩ := own_rd hp
      have Ho := Lib.hid ho; have Hp := Lib.hid hp
      clear hs ho hp hb hfl
      by_cases hlt : k < ls.length
      · obtain ⟨b, off, rfl, hbl, Ai, ci, hc, hbs, hz⟩ := HA.out k hlt
        have hcell := (Hb.out.cell (p := ⟨b, off + k, none⟩) hbl).trans hc
        have Hbs : Hid (Bs wr wr.heap.size Ai (ls.getD k [])) := Lib.hid ((hbs.below Hb.out).more Hb.out.size)
        have Hz := Lib.hid hz
        have Hft := Lib.hid (frames_take ls k hlt)
        have Hof := Lib.hid (offs_snoc ls k)
        have Hmem := Lib.hid (fun h2 => take_mem_snoc (m := 300) hlt Hs.out h2)
        have hrl := HL.out (ls.getD k []) (by rw [List.getD_eq_getElem?_getD, List.getElem?_eq_getElem hlt]; simp)
        have Hrm : Hid (¬ (ls.getD k []).length ≤ 300 → ¬ ∀ r ∈ ls, r.length ≤ 300) := Lib.hid (fun h hh => h (hh _ (by rw [List.getD_eq_getElem?_getD, List.getElem?_eq_getElem hlt]; simp)))
        clear hc hbs hz
        generalize hr : ls.getD k [] = r at *
        clear hr
        by_cases h6 : r.length ≤ 65536
        · go_wp2_with fail
          refine (frame_at r _ rfl h6 Ai ci wr Hbs.out Hz.out).mono ?_
          rintro e w1 ⟨v3, rfl, h1, hb1⟩
          have Ho1 := Lib.hid (own_below Ho.out hb1); have Hp1 := Lib.hid (own_below Hp.out hb1)
          have HB1 := Lib.hid (Hb.out.trans (hb1.mono Hb.out.size))
          have hcell := (hb1.cell (p := ⟨b, off + k, none⟩) (Nat.lt_of_lt_of_le hbl Hb.out.size)).trans hcell
          obtain ⟨A3, c3, rfl, hr3, hn3, _⟩ := own_rd h1
          have R3 := Lib.hid (own_base h1 Hb.out.size); have Rr := Lib.hid hr3; have N3 := Lib.hid hn3
          clear h1 hb1 hr3 hn3
          by_cases h3 : r.length ≤ 300
          · go_wp2_with (first
              | (at_builtin; refine wpList_append_one0 E25 rfl (.tmp 37) (.tmp 40) rfl w.heap.size (.int .i64 ((framesL (ls.take k)).length : Nat)) rfl _ k (icells (offs ls k)) rfl Hp1.out rfl (by omega) (by omega) w (Nat.le_refl _) HB1.out ?_
                 intro v4 w4 h2 h3 h4 h5; clear h5; have P4 := Lib.hid h2; have HB4 := Lib.hid h3; have Ho4 := Lib.hid (own_grown Ho1.out Hp1.out (by decide) h4); have R4 := Lib.hid (own_grown R3.out Hp1.out (by decide) h4); clear h2 h3 h4; have Rr5 := Lib.hid (own_rds R4.out))
              | (at_builtin; refine wpList_append_src E5 rfl (.tmp 42) (.tmp 43) rfl w.heap.size _ (framesL (ls.take k)).length _ rfl Ho4.out w4.heap.size A3 (bcells (frameL r)) (r.length + 12) c3 rfl (by rw [bcells_length, frame_length]) Rr5.out N3.out (bcells_one _) (by omega) (by omega) w (Nat.le_refl _) HB4.out ?_
                 intro v6 w6 h2 h3 h4 h5; clear h5; have O6 := Lib.hid h2; have HB6 := Lib.hid h3; have P6 := Lib.hid (own_grown P4.out Ho4.out (by decide) h4); clear h2 h3 h4))
            go_roundw
            case rel => exact ⟨k + 1, by omega, by go_num, Hmem.out h3, by rw [Hft.out, List.length_append, frame_length, bcells_app]; exact O6.out, by rw [Hof.out]; simpa [icells] using P6.out, HB6.out⟩
            case measure => simp [intOf]; omega
          · go_wp2_with fail
            go_ret3
            exact ⟨HB1.out, .inl rfl⟩
        · go_wp2_with fail
          refine (frame_long r.length (by omega) Ai ci wr).mono ?_
          rintro e w1 ⟨rfl, rfl⟩
          go_wp2_with fail
          go_ret3
          exact ⟨Hb.out, .inl rfl⟩
      · obtain rfl : k = ls.length := by omega
        have Hall : Hid (∀ r ∈ ls, r.length ≤ 300) := Lib.hid (by have := Hs.out; rwa [List.take_length] at this)
        rw [List.take_length] at Ho hfl2 ⊢
        go_wp2_with (at_builtin; refine wpList_append_one0 E25 rfl (.tmp 46) (.tmp 49) rfl w.heap.size (.int .i64 ((framesL ls).length : Nat)) rfl _ ls.length (icells (offs ls ls.length)) rfl Hp.out rfl (by omega) (by omega) w (Nat.le_refl _) Hb.out ?_; intro v4 w4 h2 h3 h4 h5; clear h5; have P4 := Lib.hid h2; have HB4 := Lib.hid h3; have Ho4 := Lib.hid (own_grown Ho.out Hp.out (by decide) h4); clear h2 h3 h4)
        go_ret3
        refine ⟨HB4.out, .inr ⟨h20, Hall.out, _, v4, rfl, ?_, ?_⟩⟩
        · exact Ho4.out
        · rw [offs_snoc, List.take_length]; simpa [icells] using P4.out
  · go_wp2_with fail
    go_ret3
    exact ⟨Below.refl _ _, .inl rfl⟩
end Go.Proofs.Ytblccebcmfpjeaa
