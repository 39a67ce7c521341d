/- norm.pasts. -/
import Derived.Test.YtaalinhkikmfaaaE3
import Derived.Test.YtaalinhkikmfaaaE5
import Derived.Test.YtaalinhkikmfaaaSh
import Derived.Test.YtaalinhkikmfaaaGc
import Derived.Shelf.Abstract
set_option linter.unusedSimpArgs false
set_option linter.unusedVariables false
namespace Go.Proofs.Ytaalinhkikmfaaa
open Go.RowKit

theorem Fam.mono {w : World} {B B' K : Nat} {val : Nat → Value} {f : Nat → List Nat} (h : Fam w B K val f) (hB : B' ≤ B) : Fam w B' K val f := ⟨fun k hk => ⟨(h.own k hk).1, (h.own k hk).2.imp id fun ⟨g, cap, cur, e, hb, r⟩ => ⟨g, cap, cur, e, Nat.le_trans hB hb, r⟩⟩, h.ne⟩
/-- how far the rows have come: those of the past (below m), those of the future. -/
def pfS (l : List Ev) (m j i k : Nat) : List Nat :=
  if k < m then (if k < j then pastL l k else if k = j then (List.range i).filter fun a => hb l a j else [])
  else (List.range j).filter (fun b => hb l (k - m) b) ++ (if k - m < i ∧ hb l (k - m) j = true then [j] else [])
def pf (l : List Ev) (m k : Nat) : List Nat := if k < m then pastL l k else futL l (k - m)
theorem pfS_zero (l : List Ev) (m k : Nat) : pfS l m 0 0 k = [] := by
  unfold pfS
  split
  · simp
  · simp
theorem pfS_next (l : List Ev) (m j k : Nat) (hj : j < m) : pfS l m j j k = pfS l m (j + 1) 0 k := by
  unfold pfS
  by_cases h : k < m
  · rw [if_pos h, if_pos h]
    by_cases h1 : k < j
    · rw [if_pos h1, if_pos (by omega)]
    · rw [if_neg h1]
      by_cases h2 : k = j
      · rw [if_pos h2, if_pos (by omega), h2]; rfl
      · rw [if_neg h2, if_neg (by omega)]
        split <;> simp
  · rw [if_neg h, if_neg h, List.range_succ, List.filter_append]
    rw [List.append_assoc]
    congr 1
    simp only [Nat.not_lt_zero, false_and, if_false, List.append_nil]
    cases hh : hb l (k - m) j with
    | false => simp [hh]
    | true => simp [hh, hb_lt hh]
theorem pfS_end (l : List Ev) (m k : Nat) (hm : m = l.length) : pfS l m m 0 k = pf l m k := by
  unfold pfS pf
  by_cases h : k < m
  · rw [if_pos h, if_pos h, if_pos h]
  · rw [if_neg h, if_neg h]
    simp [futL, hm]
theorem pfS_no {l : List Ev} {m j i : Nat} (h : hb l i j = false) (hj : j < m) (k : Nat) : pfS l m j (i + 1) k = pfS l m j i k := by
  unfold pfS
  by_cases hk : k < m
  · rw [if_pos hk, if_pos hk, List.range_succ, List.filter_append]
    simp [h]
  · rw [if_neg hk, if_neg hk]
    congr 1
    by_cases e : k - m = i
    · rw [e, h]; simp
    · by_cases hc : k - m < i
      · simp [hc, show k - m < i + 1 by omega]
      · simp [hc, show ¬ k - m < i + 1 by omega]
theorem pfS_f (l : List Ev) (m j i a : Nat) : pfS l m j i (m + a) = (List.range j).filter (fun b => hb l a b) ++ (if a < i ∧ hb l a j = true then [j] else []) := by
  unfold pfS
  rw [if_neg (by omega), show m + a - m = a by omega]
theorem pfS_p (l : List Ev) {m j : Nat} (i : Nat) (h : j < m) : pfS l m j i j = (List.range i).filter fun a => hb l a j := by
  unfold pfS
  rw [if_pos h, if_neg (by omega), if_pos rfl]
theorem pfS_yes {l : List Ev} {m j i : Nat} (h : hb l i j = true) (hj : j < m) (hi : i < j) (k : Nat) : pfS l m j (i + 1) k = upd (upd (pfS l m j i) j (pfS l m j i j ++ [i])) (m + i) (pfS l m j i (m + i) ++ [j]) k := by
  by_cases e1 : k = m + i
  · subst e1
    rw [upd_at, pfS_f, pfS_f, if_pos ⟨by omega, h⟩, if_neg (by omega), List.append_nil]
  · rw [upd_ne _ _ e1]
    by_cases e2 : k = j
    · subst e2
      rw [upd_at, pfS_p l _ hj, pfS_p l _ hj, List.range_succ, List.filter_append]
      simp [h]
    · rw [upd_ne _ _ e2]
      unfold pfS
      by_cases hk : k < m
      · rw [if_pos hk, if_pos hk]
        simp [e2]
      · rw [if_neg hk, if_neg hk]
        congr 1
        by_cases hc : k - m < i
        · simp [hc, show k - m < i + 1 by omega]
        · simp [hc, show ¬ k - m < i + 1 by omega]
theorem pfS_len (l : List Ev) (m j i k : Nat) (hj : j ≤ m) (hi : i ≤ m) : (pfS l m j i k).length ≤ m + 1 := by
  have h1 : ∀ (n : Nat) (p : Nat → Bool), ((List.range n).filter p).length ≤ n := fun n p => by have := List.length_filter_le p (List.range n); simpa using this
  unfold pfS
  split
  · split
    · have := h1 k (fun i => hb l i k); unfold pastL; omega
    · split
      · have := h1 i (fun a => hb l a j); omega
      · simp
  · have := h1 j (fun b => hb l (k - m) b)
    rw [List.length_append]
    split <;> simp <;> omega
theorem mat_new {w : World} {P m off : Nat} (h : w.heap[P]? = some (.cells (Array.replicate m (.slice none 0 0)) 23 (0, 0))) : Mat w P m (fun _ => .slice none 0 0) off := ⟨_, h, by simp, fun j hj => by simp [hj]⟩
theorem mat_two0 (w : World) (m : Nat) {off : Nat} : Mat ((w.alloc (.cells (Array.replicate m (.slice none 0 0)) 23)).alloc (.cells (Array.replicate m (.slice none 0 0)) 23)).drew w.heap.size m (fun _ => .slice none 0 0) off :=
  mat_new (alloc_blk (heap_alloc_new w _) _)
theorem mat_two1 (w : World) (m : Nat) {off : Nat} : Mat ((w.alloc (.cells (Array.replicate m (.slice none 0 0)) 23)).alloc (.cells (Array.replicate m (.slice none 0 0)) 23)).drew (w.heap.size + 1) m (fun _ => .slice none 0 0) off := by
  have h := heap_alloc_new (w.alloc (.cells (Array.replicate m (.slice none 0 0)) 23)) (.cells (Array.replicate m (.slice none 0 0)) 23)
  rw [show (w.alloc (.cells (Array.replicate m (.slice none 0 0)) 23)).heap.size = w.heap.size + 1 by simp] at h
  exact mat_new h
theorem rel_appJ {P : Program} {t e : TypeId} {z : Value} {bytes : Nat} (E : El P t e z bytes) {ops : Array Oper} {o : Oper} {a : Act} {INV : World → Prop} {FR : World → World → Prop} {p : PJ} {W : World} (hgd : o.guard = none) (s x : Operand)
    (ho : o.op = .call { callee := .builtin .append, args := #[s, x], argTypes := #[t, t] }) (base : Nat) (v : Value) (n : Nat) (xs : List Value) (hs : a.eval s = v) (hown : W.ownsRow base e 1 v n xs) (B : Nat) (A : Option Addr) (news : List Value) (m c : Nat) (hx : a.eval x = .slice A m c) (hm : news.length = m) (hr : Rd W B A news)
    (hA : A = none → m = 0) (h1 : ∀ u ∈ news, u.oneCell' = true) (h63 : n + m ≤ 1000000000000) (hbytes : bytes ≤ 100) (hbase : base ≤ W.heap.size)
    (h : ∀ v' w', w'.ownsRow base e 1 v' (n + m) (xs ++ news) → W.grownBy w' v.ownBlock → (v'.ownBlock = v.ownBlock ∨ ∃ g, v'.ownBlock = some g ∧ W.heap.size ≤ g) → (∀ k, v.ownBlock = some k → base ≤ k) → GiveJ INV FR p W v' w') : relOpJ P INV FR ops o a p W := by
  obtain ⟨v', w', hrun, h2, h3, h4⟩ := run_append_src E W base o.type v n xs hown B A news m c hm hr hA h1 h63 hbytes hbase
  refine rel_valJ (v := v') (W' := w') (by simp [Region.wanted, hgd]) ?_ (h v' w' h2 h3 (h4.imp id fun e => ⟨_, e, Nat.le_refl _⟩) fun k hk => (hown.lt k hk).1)
  unfold execOp
  simp only [ho, resolve, invoke, builtin, Sem.run_bind, Sem.run_pure, Result.andThen_ok, List.map_toArray, List.map_cons, List.map_nil, hs, hx, hrun]
/-- one element in a new block of its own. -/
def OneN (B : Nat) (x : Value) (v : Value) (w : World) : Prop := ∃ g, v = .slice (some ⟨g, 0, none⟩) 1 1 ∧ B ≤ g ∧ w.heap[g]? = some (.cells #[x] 3 (0, 0))
/-- what is newer than B stays. -/
def NewS (B : Nat) (w w' : World) : Prop := ∀ g, B ≤ g → g < w.heap.size → w'.heap[g]? = w.heap[g]?
theorem OneN.keepsJ (B : Nat) (x : Value) : KeepsFJ (NewS B) (OneN B x) := fun v w w' ⟨g, h1, h2, h3⟩ hF => ⟨g, h1, h2, (hF g h2 (lt_blk h3)).trans h3⟩
theorem OneN.rd {B : Nat} {x : Value} {v : Value} {w : World} (h : OneN B x v w) : ∃ A, v = .slice A 1 1 ∧ Rd w w.heap.size A [x] ∧ (A = none → 1 = 0) := by
  obtain ⟨g, h1, h2, h3⟩ := h
  refine ⟨some ⟨g, 0, none⟩, h1, fun k u hu => ⟨g, 0, rfl, lt_blk h3, ?_⟩, fun h => by cases h⟩
  match k, hu with
  | 0, hu =>
    simp at hu; subst hu
    rw [cell_blk h3]; rfl
/-- an append to a row of the family. -/
def AppS (B : Nat) (v0 : Value) (xs : List Nat) (x : Nat) (v : Value) (W W' : World) : Prop := W'.ownsRow B 3 1 v (xs.length + 1) (icl xs ++ [.int .i64 (x : Nat)]) ∧ W.grownBy W' v0.ownBlock ∧ (v.ownBlock = v0.ownBlock ∨ ∃ g, v.ownBlock = some g ∧ W.heap.size ≤ g)
/-- where the rows stand, (j, i) gone through. -/
structure PSt (l : List Ev) (m P F : Nat) (w1 w wr : World) (j i : Nat) (val : Nat → Value) : Prop where
  mp : Mat wr P m val 0
  mf : Mat wr F m val m
  fam : Fam wr w1.heap.size (2 * m) val (pfS l m j i)
  bel : Below w.heap.size w wr
  size : w1.heap.size ≤ wr.heap.size
theorem PSt.below {l : List Ev} {m P F : Nat} {w1 w wr w' : World} {j i : Nat} {val : Nat → Value} (h : PSt l m P F w1 w wr j i val) (hb : Below wr.heap.size wr w') : PSt l m P F w1 w w' j i val :=
  ⟨h.mp.below hb, h.mf.below hb, h.fam.below hb, h.bel.trans (hb.mono h.bel.size), Nat.le_trans h.size hb.size⟩
theorem PSt.congr {l : List Ev} {m P F : Nat} {w1 w wr : World} {j i j' i' : Nat} {val : Nat → Value} (h : PSt l m P F w1 w wr j i val) (hf : ∀ k, k < 2 * m → pfS l m j i k = pfS l m j' i' k) : PSt l m P F w1 w wr j' i' val := ⟨h.mp, h.mf, h.fam.congr (fun _ _ => rfl) hf, h.bel, h.size⟩
theorem pst_end {l : List Ev} {m P F j i i' : Nat} {w1 w W : World} {val : Nat → Value} {v4 v5 : Value} {f : Nat → List Nat} (hP : Mat W P m val 0) (hF : Mat W F m val m) (hfam : Fam W w1.heap.size (2 * m) (upd (upd val j v4) (m + i) v5) f) (hPF : w.heap.size ≤ P ∧ w.heap.size ≤ F ∧ P ≠ F) (hj : j < m) (hi : i < m)
    (hf : ∀ k, pfS l m j i' k = f k) (hb : Below w.heap.size w W) (hs : w1.heap.size ≤ W.heap.size) : PSt l m P F w1 w ((W.setCell ⟨P, j, none⟩ v4).setCell ⟨F, i, none⟩ v5) j i' (upd (upd val j v4) (m + i) v5) := by
  have hg1 : W.grownBy (W.setCell ⟨P, j, none⟩ v4) (some P) := grown_setCell (World.grownBy.refl W (some P)) (p := ⟨P, j, none⟩) rfl _
  have hg2 : (W.setCell ⟨P, j, none⟩ v4).grownBy ((W.setCell ⟨P, j, none⟩ v4).setCell ⟨F, i, none⟩ v5) (some F) := grown_setCell (World.grownBy.refl _ (some F)) (p := ⟨F, i, none⟩) rfl _
  have hF1 : Mat (W.setCell ⟨P, j, none⟩ v4) F m val m := hF.at (hg1.block F hF.lt (by intro e; injection e with e; exact hPF.2.2 e.symm))
  have hP1 := hP.set hj v4
  have hP2 := hP1.at (w' := (W.setCell ⟨P, j, none⟩ v4).setCell ⟨F, i, none⟩ v5) (hg2.block P hP1.lt (by intro e; injection e with e; exact hPF.2.2 e))
  refine ⟨hP2.congr fun k hk => ?_, (hF1.set hi v5).congr fun k hk => ?_, ((hfam.of_mat hP hg1).of_mat hF1 hg2).congr (fun _ _ => rfl) (fun k _ => (hf k).symm), ?_, Nat.le_trans hs (Nat.le_trans hg1.size hg2.size)⟩
  · rw [Nat.zero_add, Nat.zero_add, upd_ne _ (i := k) _ (show k ≠ m + i by omega)]
  · by_cases e : k = i
    · subst e; rw [upd_at, upd_at]
    · rw [upd_ne _ _ (by omega), upd_ne _ _ (by omega), upd_ne _ _ (by omega)]
  · refine (hb.grown hg1 hb.size fun k e => ?_).grown hg2 (Nat.le_trans hb.size hg1.size) fun k e => ?_
    · injection e with e; omega
    · injection e with e; omega
set_option maxRecDepth 100000 in
set_option maxHeartbeats 4000000 in
theorem pasts_any (l : List Ev) (m : Nat) (hm : m = l.length) (hl : m ≤ 2000) (n : Nat) (hn : n ≤ 1000) (hgood : ∀ i, i < m → 0 ≤ (ev l i).t ∧ (ev l i).t < n) (A Ac : Option Addr) (cl cc B Bc : Nat) (w : World)
    (hA : Evs w B A l) (hB : B ≤ w.heap.size) (hc : Clk w Bc Ac m n (clk l)) (hBc : Bc ≤ w.heap.size) :
    Calls Try.prog 35 #[.slice A m cl, .slice Ac m cc] w fun e w' => ∃ P F val, e = .returned (.tuple #[.slice (some ⟨P, 0, none⟩) m m, .slice (some ⟨F, 0, none⟩) m m]) ∧ Mat w' P m val 0 ∧ Mat w' F m val m ∧ Fam w' w.heap.size (2 * m) val (pf l m) ∧ w.heap.size ≤ P ∧ w.heap.size ≤ F ∧ P ≠ F ∧ Below w.heap.size w w' := by
  have HM := Lib.hid hm
  have HAH : Hid (∀ W a b, Below w.heap.size w W → a < m → b < m → Calls Try.prog 51 #[.slice Ac m cc, .slice A m cl, .int .i64 (a : Nat), .int .i64 (b : Nat)] W fun e w' => e = .returned (.tuple #[.bool (hb l a b), .int .i64 0]) ∧ Below W.heap.size W w') := Lib.hid fun W a b hW ha hb' => by
    subst hm
    have := ahead_any l (by omega) n hn hgood (clk l) a b ha hb' A Ac cl cc B Bc W (hA.below (hW.mono hB)) (Nat.le_trans hB hW.size) (hc.below (hW.mono hBc)) (Nat.le_trans hBc hW.size)
    rw [aheadB_hb l a b (hgood a ha).1] at this
    exact this
  clear hm hA hc hgood
  have hmk := fun W => run_make_el EII m m (by simp) (by omega) (by omega) W
  go_enter Try.func35, Try.ntmps35
  go_upto_region 1 with (fail)
  go_region
  have hP : Hid (∃ P F W, P = w.heap.size ∧ F = w.heap.size + 1 ∧ W = ((w.alloc (.cells (Array.replicate m (.slice none 0 0)) 23)).alloc (.cells (Array.replicate m (.slice none 0 0)) 23)).drew) := Lib.hid ⟨_, _, _, rfl, rfl, rfl⟩
  obtain ⟨P, F, w1, hP, hF, hW⟩ := hP.out
  have MP : Hid (Mat w1 P m (fun _ => .slice none 0 0) 0) := Lib.hid (by subst hW hP; exact mat_two0 w m)
  have MF : Hid (Mat w1 F m (fun _ => .slice none 0 0) m) := Lib.hid (by subst hW hF; exact mat_two1 w m)
  have HPF : Hid (w.heap.size ≤ P ∧ w.heap.size ≤ F ∧ P ≠ F) := Lib.hid (by omega)
  have HB1 : Hid (Below w.heap.size w w1) := Lib.hid (by subst hW; exact (((Below.refl w.heap.size w).alloc (Nat.le_refl _) _).alloc (by simp) _).drew)
  rw [← hW, ← hF, ← hP]
  clear hW hP hF hmk
  rotate_left
  have hP : Hid (∃ P F W, P = w.heap.size + 1 ∧ F = w.heap.size ∧ W = ((w.alloc (.cells (Array.replicate m (.slice none 0 0)) 23)).alloc (.cells (Array.replicate m (.slice none 0 0)) 23)).drew) := Lib.hid ⟨_, _, _, rfl, rfl, rfl⟩
  obtain ⟨P, F, w1, hP, hF, hW⟩ := hP.out
  have MP : Hid (Mat w1 P m (fun _ => .slice none 0 0) 0) := Lib.hid (by subst hW hP; exact mat_two1 w m)
  have MF : Hid (Mat w1 F m (fun _ => .slice none 0 0) m) := Lib.hid (by subst hW hF; exact mat_two0 w m)
  have HPF : Hid (w.heap.size ≤ P ∧ w.heap.size ≤ F ∧ P ≠ F) := Lib.hid (by omega)
  have HB1 : Hid (Below w.heap.size w w1) := Lib.hid (by subst hW; exact (((Below.refl w.heap.size w).alloc (Nat.le_refl _) _).alloc (by simp) _).drew)
  rw [← hW, ← hP, ← hF]
  clear hW hP hF hmk
  rotate_left
  all_goals
    go_wp2_with fail
    go_loopw [18] (fun jv wr => ∃ (j : Nat) (val : Nat → Value), j ≤ m ∧ jv = .int .i64 (j : Nat) ∧ PSt l m P F w1 w wr j 0 val) (fun jv _ => m - (intOf jv).toNat)
    case atStart => exact ⟨0, fun _ => .slice none 0 0, by omega, by go_num, MP.out, MF.out, (Fam.nil w1 w1.heap.size (2 * m)).congr (fun _ _ => rfl) (fun k _ => (pfS_zero l m k).symm), HB1.out, Nat.le_refl _⟩
    case round =>
      obtain ⟨j, val, hj, rfl, hst⟩ := hrel
      have HST := Lib.hid hst
      clear hst
      by_cases hlt : j < m
      · go_wp2_with fail
        go_loopw [22] (fun iv wq => ∃ (i : Nat) (val : Nat → Value), i ≤ j ∧ iv = .int .i64 (i : Nat) ∧ PSt l m P F w1 w wq j i val) (fun iv _ => j - (intOf iv).toNat)
        case atStart => exact ⟨0, val, by omega, by go_num, HST.out⟩
        case round =>
          obtain ⟨i, val, hi, rfl, hst⟩ := hrel
          have HS2 := Lib.hid hst
          clear hst
          by_cases hli : i < j
          · have HAA := Lib.hid (HAH.out _ i j HS2.out.bel (by omega) hlt)
            go_wp2_with fail
            with_reducible refine HAA.out.mono ?_
            rintro e w2 ⟨rfl, b2⟩
            have HS3 := Lib.hid (HS2.out.below b2)
            clear b2
            cases hh : hb l i j with
            | false =>
              have HN := Lib.hid hh
              clear hh
              go_wp2_with fail
              exact ⟨⟨i + 1, val, by omega, by go_num, HS3.out.congr (fun k _ => (pfS_no HN.out hlt k).symm)⟩, by simp [intOf]; omega⟩
            | true =>
              have HN := Lib.hid hh
              clear hh
              have hPl := MP.out.lt
              have hFl := MF.out.lt
              have HBI : Hid (∀ W, Below w1.heap.size w2 W → W.heap[P]? = w2.heap[P]? ∧ W.heap[F]? = w2.heap[F]?) := Lib.hid fun W hW => ⟨hW.block P hPl, hW.block F hFl⟩
              have HCC : Hid (∀ W, Below w1.heap.size w2 W → W.cell? ⟨P, j, none⟩ = some (val j) ∧ W.cell? ⟨F, i, none⟩ = some (val (m + i))) := Lib.hid fun W hW => by
                have h1 := (HS3.out.mp.at (HBI.out W hW).1).cell hlt
                have h2 := (HS3.out.mf.at (HBI.out W hW).2).cell (show i < m by omega)
                rw [Nat.zero_add] at h1
                exact ⟨h1.1, h2.1⟩
              have HSZ : Hid (w1.heap.size ≤ w2.heap.size) := Lib.hid HS3.out.size
              have HLJ := Lib.hid (pfS_len l m j i j hj (by omega))
              have HLI := Lib.hid (pfS_len l m j i (m + i) hj (by omega))
              have HLT : Hid (∀ k, k < 2 * m → ∀ b, (val k).ownBlock = some b → b < w2.heap.size) := Lib.hid fun k hk b hb => ((HS3.out.fam.own k hk).lt b hb).2
              clear hPl hFl
              have q1 : (0 : Int) ≤ j := by omega
              have q2 : (j : Int) < m := by omega
              have q3 : (0 : Int) ≤ i := by omega
              have q4 : (i : Int) < m := by omega
              go_upto_region 10 with (fail)
              apply wp_region_relJ (H := [2, 3]) (fun W => Below w1.heap.size w2 W) (fun W => Fam W w1.heap.size (2 * m) val (pfS l m j i)) (NewS w2.heap.size) 18 [(Sum.inl _ : TJ), (Sum.inl _ : TJ), (Sum.inl _ : TJ), (Sum.inl _ : TJ), (Sum.inl _ : TJ), (Sum.inl _ : TJ), (Sum.inl _ : TJ), (Sum.inl _ : TJ), (Sum.inl _ : TJ), (Sum.inr (OneN w2.heap.size (.int .i64 (i : Nat)), none) : TJ), (Sum.inr (fun _ _ => True, some (AppS w1.heap.size (val j) (pfS l m j i j) i)) : TJ), (Sum.inl _ : TJ), (Sum.inl _ : TJ), (Sum.inl _ : TJ), (Sum.inl _ : TJ), (Sum.inl _ : TJ), (Sum.inr (OneN w2.heap.size (.int .i64 (j : Nat)), none) : TJ), (Sum.inr (fun _ _ => True, some (AppS w1.heap.size (val (m + i)) (pfS l m j i (m + i)) j)) : TJ)] [false, false, false, false, false, false, false, false, false, false, true, false, false, false, false, false, false, true] (by kernel_rfl) (by kernel_rfl) (by rfl) (fun _ _ _ _ _ h => h) (by kernel_rfl) rfl rfl (fun w w' hb g _ hg => hb.block g hg) (fun _ _ h hb => h.below hb) ((Below.refl _ _).drew) (HS3.out.fam.below ((Below.refl _ _).drew))
              simp only [List.take_succ_cons, List.take_zero, List.drop_succ_cons, List.drop_zero]
              iterate 9 (apply rel_isJ; (intro W hW hf; obtain ⟨z1, z2⟩ := HCC.out W hW; go_simp; first | exact ⟨⟨hW, Below.refl _ _⟩, rfl⟩ | exact ⟨Below.refl _ _, rfl⟩ | rfl); simp only [Act.put, List.setIfInBounds_toArray, List.set_cons_succ, List.set_cons_zero])
              apply rel_newJ
              · intro W hW hf
                refine rel_valJ (v := .slice (some ⟨W.heap.size, 0, none⟩) 1 1) (W' := W.alloc (.cells #[.int .i64 (i : Nat)] 3)) rfl (by go_simp) ?_
                exact ⟨hW.trans ((below_alloc W _).mono (Nat.le_trans HSZ.out hW.size)), ⟨_, rfl, hW.size, heap_alloc_new _ _⟩, below_alloc W _⟩
              · exact OneN.keepsJ _ _
              intro v43
              simp only [Act.put, List.setIfInBounds_toArray, List.set_cons_succ, List.set_cons_zero]
              apply rel_effJ
              · intro W hW hS hf
                have h43 := hf (43, OneN w2.heap.size (.int .i64 (i : Nat)) v43) (by simp) (by simp [Oper.looksAt, Op.operands, Call.operands])
                obtain ⟨A43, rfl, hr, hn⟩ := h43.rd
                refine rel_appJ EI rfl (.tmp 41) (.tmp 43) rfl w1.heap.size (val j) (pfS l m j i j).length (icl (pfS l m j i j)) rfl (hS.own j (by omega)) W.heap.size A43 [.int .i64 (i : Nat)] 1 1 rfl rfl hr hn (by simp [Value.oneCell']) (by have := HLJ.out; omega) (by omega) (Nat.le_trans HSZ.out hW.size) ?_
                intro v' w' h1 h2 h3 h4
                refine ⟨hW.grown h2 (Nat.le_trans HSZ.out hW.size) h4, trivial, fun g hg1 hg2 => h2.block g hg2 (fun e => ?_), h1, h2, h3⟩
                have := HLT.out j (by omega) g e.symm
                omega
              · exact fun _ _ _ _ _ => trivial
              intro v44
              simp only [Act.put, List.setIfInBounds_toArray, List.set_cons_succ, List.set_cons_zero]
              iterate 5 (apply rel_isJ; (intro W hW hf; obtain ⟨z1, z2⟩ := HCC.out W hW; go_simp; first | exact ⟨⟨hW, Below.refl _ _⟩, rfl⟩ | exact ⟨Below.refl _ _, rfl⟩ | rfl); simp only [Act.put, List.setIfInBounds_toArray, List.set_cons_succ, List.set_cons_zero])
              apply rel_newJ
              · intro W hW hf
                refine rel_valJ (v := .slice (some ⟨W.heap.size, 0, none⟩) 1 1) (W' := W.alloc (.cells #[.int .i64 (j : Nat)] 3)) rfl (by go_simp) ?_
                exact ⟨hW.trans ((below_alloc W _).mono (Nat.le_trans HSZ.out hW.size)), ⟨_, rfl, hW.size, heap_alloc_new _ _⟩, below_alloc W _⟩
              · exact OneN.keepsJ _ _
              intro v50
              simp only [Act.put, List.setIfInBounds_toArray, List.set_cons_succ, List.set_cons_zero]
              apply rel_effJ
              · intro W hW hS hf
                have h50 := hf (50, OneN w2.heap.size (.int .i64 (j : Nat)) v50) (by simp) (by simp [Oper.looksAt, Op.operands, Call.operands])
                obtain ⟨A50, rfl, hr, hn⟩ := h50.rd
                obtain ⟨W0, W1, hF0, hA1, hB1⟩ := hS
                have hF1 := (hF0.app (k := j) (by omega) i hA1.1 hA1.2.1 hA1.2.2).below hB1
                have ho := hF1.own (m + i) (by omega)
                rw [upd_ne _ _ (by omega), upd_ne _ _ (by omega)] at ho
                refine rel_appJ EI rfl (.tmp 48) (.tmp 50) rfl w1.heap.size (val (m + i)) (pfS l m j i (m + i)).length (icl (pfS l m j i (m + i))) rfl ho W.heap.size A50 [.int .i64 (j : Nat)] 1 1 rfl rfl hr hn (by simp [Value.oneCell']) (by have := HLI.out; omega) (by omega) (Nat.le_trans HSZ.out hW.size) ?_
                intro v' w' h1 h2 h3 h4
                refine ⟨hW.grown h2 (Nat.le_trans HSZ.out hW.size) h4, trivial, fun g hg1 hg2 => h2.block g hg2 (fun e => ?_), h1, h2, h3⟩
                have := HLT.out (m + i) (by omega) g e.symm
                omega
              · exact fun _ _ _ _ _ => trivial
              intro v51
              simp only [Act.put, List.setIfInBounds_toArray, List.set_cons_succ, List.set_cons_zero]
              refine rel_endJ ?_
              intro W hW hS hf
              try simp only [Act.put, List.setIfInBounds_toArray, List.set_cons_succ, List.set_cons_zero]
              obtain ⟨W0, W1, ⟨W2, W3, hF0, hA1, hB1⟩, hA2, hB2⟩ := hS
              have hF1 := (hF0.app (k := j) (by omega) i hA1.1 hA1.2.1 hA1.2.2).below hB1
              have hF2 := hF1.app (k := m + i) (by omega) j (v' := v51) (by rw [upd_ne _ _ (by omega)]; exact hA2.1) (by rw [upd_ne _ _ (by omega)]; exact hA2.2.1) (by rw [upd_ne _ _ (by omega)]; exact hA2.2.2)
              rw [upd_ne _ _ (show m + i ≠ j by omega)] at hF2
              have hF3 := hF2.below hB2
              have o44 := hF3.own j (by omega)
              have o51 := hF3.own (m + i) (by omega)
              rw [upd_ne _ _ (by omega), upd_at] at o44
              rw [upd_at] at o51
              obtain ⟨A4, c4, rfl, _⟩ := own_rd o44
              obtain ⟨A5, c5, rfl, _⟩ := own_rd o51
              have HF3 := Lib.hid hF3
              have HWW := Lib.hid hW
              have hmP := HS3.out.mp.at (HBI.out W hW).1
              have hmF := HS3.out.mf.at (HBI.out W hW).2
              have HMP := Lib.hid hmP; have HMF := Lib.hid hmF
              obtain ⟨z1, z2⟩ := HCC.out W hW
              have f1 := (hmP.cell hlt).2
              have f2 := (hmF.cell (show i < m by omega)).2
              have z3 : ∀ x, (W.setCell ⟨P, j, none⟩ x).cell? ⟨F, i, none⟩ = some (val (m + i)) := fun x => by
                rw [World.cell?_of_block (Below.heap_setCell W ⟨P, j, none⟩ x F (fun e => HPF.out.2.2 e.symm))]
                exact z2
              have f3 : ∀ x, (W.setCell ⟨P, j, none⟩ x).frozen? ⟨F, i, none⟩ = false := fun x => ((hmF.at (Below.heap_setCell W ⟨P, j, none⟩ x F (fun e => HPF.out.2.2 e.symm))).cell (show i < m by omega)).2
              clear hF0 hA1 hB1 hA2 hB2 hF1 hF2 hF3 o44 o51 hW hf hmP hmF
              go_wp2_with fail
              exact ⟨⟨i + 1, _, by omega, by go_num, pst_end HMP.out HMF.out HF3.out HPF.out hlt (by omega) (fun k => pfS_yes HN.out hlt hli k) (HS3.out.bel.trans (HWW.out.mono HB1.out.size)) (Nat.le_trans HSZ.out HWW.out.size)⟩, by simp [intOf]; omega⟩
          · obtain rfl : i = j := by omega
            go_wp2_with fail
            exact ⟨⟨i + 1, val, by omega, by go_num, HS2.out.congr (fun k _ => pfS_next l m i k hlt)⟩, by simp [intOf]; omega⟩
      · obtain rfl : j = m := by omega
        go_wp2_with fail
        go_ret2
        exact ⟨P, F, val, rfl, HST.out.mp, HST.out.mf, (HST.out.fam.mono HB1.out.size).congr (fun _ _ => rfl) (fun k _ => pfS_end l j k HM.out), HPF.out.1, HPF.out.2.1, HPF.out.2.2, HST.out.bel⟩
end Go.Proofs.Ytaalinhkikmfaaa
