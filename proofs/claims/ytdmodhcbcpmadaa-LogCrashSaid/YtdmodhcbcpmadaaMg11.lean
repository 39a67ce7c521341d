/- several texts in one: LogCrash: rows of records; a round's state., LogCrash. -/
import Derived.Test.YtdmodhcbcpmadaaMg10
import Derived.Test.YtdmodhcbcpmadaaNx
import Derived.Test.YtdmodhcbcpmadaaNu
import Derived.Test.YtdmodhcbcpmadaaMg12
import Derived.Test.YtdmodhcbcpmadaaNw
section
set_option linter.unusedSimpArgs false
set_option linter.unusedVariables false
namespace Go.Proofs.Ytdmodhcbcpmadaa
open Go.RowKit

theorem ES46 : ElS Try.prog 58 29 (.slice none 0 0) 1 24 := ⟨Try.underlying58, by kernel_rfl, rfl, by decide⟩
theorem own_less {w : World} {b b' e sz n : Nat} {v : Value} {xs : List Value} (h : w.ownsRow b e sz v n xs) (hb : b' ≤ b) : w.ownsRow b' e sz v n xs :=
  ⟨h.1, h.2.imp_right fun ⟨g, k, cur, x1, x2, x3⟩ => ⟨g, k, cur, x1, Nat.le_trans hb x2, x3⟩⟩
/-- records that came in, in a row of the law's own. -/
def SRow (w0 w : World) (B : Nat) (v : Value) (S : List (List UInt8)) : Prop := ∃ vs, w.ownsRow B 29 1 v S.length vs ∧ ∀ j, j < S.length → ∃ A c, vs[j]? = some (.slice A (S.getD j []).length c) ∧ Bs w0 w0.heap.size A (S.getD j []) ∧ (A = none → S.getD j [] = [])
theorem SRow.nil (w0 w : World) (B : Nat) : SRow w0 w B (.slice none 0 0) [] := ⟨[], World.ownsRow_nil _ _ _ _, fun j hj => absurd hj (by simp)⟩
theorem SRow.below {w0 w w' : World} {B : Nat} {v : Value} {S : List (List UInt8)} (h : SRow w0 w B v S) (hb : Below w.heap.size w w') : SRow w0 w' B v S := by
  obtain ⟨vs, h1, h2⟩ := h
  exact ⟨vs, own_below h1 hb, h2⟩
theorem SRow.bw {w0 w w' : World} {B : Nat} {v : Value} {S : List (List UInt8)} {K : List Nat} (h : SRow w0 w B v S) (hb : Bw w w' K) (hK : ∀ k ∈ K, v.ownBlock ≠ some k) : SRow w0 w' B v S := by
  obtain ⟨vs, h1, h2⟩ := h
  exact ⟨vs, own_bw h1 hb hK, h2⟩
theorem SRow.ne {w0 w : World} {B k : Nat} {T : TypeId} {v : Value} {S : List (List UInt8)} {cs : Array Value} (h : SRow w0 w B v S) (hk : w.heap[k]? = some (.cells cs T (0, 0))) (hT : T ≠ 29) : v.ownBlock ≠ some k := by
  obtain ⟨vs, h1, h2⟩ := h
  exact own_ne h1 hk hT
theorem SRow.nomap {w0 w : World} {B k : Nat} {v : Value} {S : List (List UInt8)} {vs : Nl Value} (h : SRow w0 w B v S) (hk : MapN Try.prog 9 w k vs) : v.ownBlock ≠ some k := by
  obtain ⟨_, h1, _⟩ := h
  exact own_nomap h1 hk
theorem SRow.apart {w0 w : World} {B p m : Nat} {d : Dk} {v : Value} {S : List (List UInt8)} (h : SRow w0 w B v S) (hd : DiskAt w p m d) : ∀ k ∈ [p, m], v.ownBlock ≠ some k := by
  intro k hk
  simp only [List.mem_cons, List.not_mem_nil, or_false] at hk
  rcases hk with rfl | rfl
  · exact h.ne hd.own (by decide)
  · obtain ⟨vs, h1, _⟩ := hd.files
    exact h.nomap h1
theorem SRow.apart3 {w0 w : World} {B p m q : Nat} {d : Dk} {L : Lg} {v : Value} {S : List (List UInt8)} (h : SRow w0 w B v S) (hd : DiskAt w p m d) (hl : LogAt w q p L) : ∀ k ∈ [p, m, q], v.ownBlock ≠ some k := by
  intro k hk
  by_cases hq : k = q
  · subst hq; exact h.ne hl (by decide)
  · exact h.apart hd k (by simp at hk ⊢; omega)
theorem SRow.lt {w0 w : World} {B : Nat} {v : Value} {S : List (List UInt8)} (h : SRow w0 w B v S) : ∀ k, v.ownBlock = some k → B ≤ k ∧ k < w.heap.size := by
  obtain ⟨vs, h1, h2⟩ := h
  exact h1.lt
theorem SRow.shape {w0 w : World} {B : Nat} {v : Value} {S : List (List UInt8)} (h : SRow w0 w B v S) : ∃ A c, v = .slice A S.length c := by
  obtain ⟨vs, h1, h2⟩ := h
  obtain ⟨A, c, e, _⟩ := own_rd h1
  exact ⟨A, c, e⟩
theorem SRow.ls {w0 w : World} {B n c : Nat} {A : Option Addr} {S : List (List UInt8)} (h : SRow w0 w B (.slice A n c) S) (hb : Below w0.heap.size w0 w) : Ls w w.heap.size A S := by
  obtain ⟨vs, h1, h2⟩ := h
  obtain ⟨A', c', e, hr, _⟩ := own_rd h1
  injection e with e1 e2 e3
  subst e1
  intro j hj
  obtain ⟨Aj, cj, h3, h4, h5⟩ := h2 j hj
  obtain ⟨b, off, e, hbl, hc⟩ := hr j _ h3
  exact ⟨b, off, e, hbl, Aj, cj, hc, (h4.below hb).more hb.size, h5⟩
/-- one record more. -/
theorem SRow.snoc {w0 w : World} {B : Nat} {v' : Value} {S : List (List UInt8)} {vs : List Value} {r : List UInt8} {A : Option Addr} {c : Nat} (hS : ∀ j, j < S.length → ∃ A c, vs[j]? = some (.slice A (S.getD j []).length c) ∧ Bs w0 w0.heap.size A (S.getD j []) ∧ (A = none → S.getD j [] = [])) (hl : vs.length = S.length)
    (ho : w.ownsRow B 29 1 v' (S.length + 1) (vs ++ [.slice A r.length c])) (hb : Bs w0 w0.heap.size A r) (h0 : A = none → r = []) : SRow w0 w B v' (S ++ [r]) := by
  refine ⟨_, by rw [List.length_append, List.length_singleton]; exact ho, fun j hj => ?_⟩
  rw [List.length_append, List.length_singleton] at hj
  by_cases hlt : j < S.length
  · obtain ⟨Aj, cj, h1, h2, h3⟩ := hS j hlt
    have e : (S ++ [r]).getD j [] = S.getD j [] := by simp [List.getD_eq_getElem?_getD, List.getElem?_append_left hlt]
    rw [e, List.getElem?_append_left (by omega)]
    exact ⟨Aj, cj, h1, h2, h3⟩
  · obtain rfl : j = S.length := by omega
    have e : (S ++ [r]).getD S.length [] = r := by simp [List.getD_eq_getElem?_getD]
    rw [e, List.getElem?_append_right (by omega), hl, Nat.sub_self]
    exact ⟨A, c, rfl, hb, h0⟩
/-- before any write failed. -/
structure LC1 (w0 w : World) (p m q i res : Nat) (d : Dk) (L : Lg) (sv : Value) (S : List (List UInt8)) : Prop where
  lg : LG w0 w p m q d L sv
  srow : SRow w0 w w0.heap.size sv S
  p1 : P1 d L res S
  hi : S.length ≤ i
/-- behind: x is in doubt. -/
structure LC2 (w0 w : World) (p m q res : Nat) (d : Dk) (L : Lg) (sv dv : Value) (S : List (List UInt8)) (x : List UInt8) (i : Nat) : Prop where
  lg : LG w0 w p m q d L sv
  srow : SRow w0 w w0.heap.size sv S
  drow : SRow w0 w w0.heap.size dv (S ++ [x])
  p2 : P2 d L res S x
  hi : S.length ≤ i
section
variable {w0 w w' : World} {p m q i res : Nat} {d : Dk} {L : Lg} {sv dv : Value} {S : List (List UInt8)} {x : List UInt8}
theorem LC1.after (h : LC1 w0 w p m q i res d L sv S) (hb : Below w.heap.size w w') : LC1 w0 w' p m q i res d L sv S := ⟨h.lg.after hb, h.srow.below hb, h.p1, h.hi⟩
theorem LC2.after (h : LC2 w0 w p m q res d L sv dv S x i) (hb : Below w.heap.size w w') : LC2 w0 w' p m q res d L sv dv S x i := ⟨h.lg.after hb, h.srow.below hb, h.drow.below hb, h.p2, h.hi⟩
/-- a commit ahead of any failure: refused for room, done, or failed. -/
theorem LC1.commit (h : LC1 w0 w p m q i res d L sv S) (hr : res ≤ 5000) (h40 : i < 40) (r : List UInt8) (k : Nat) (hk : k = r.length) (hl : k ≤ 300) (C : Option Addr) (capb : Nat) (hC : Bs w w.heap.size C r) (hC0 : C = none → r = []) :
    Calls Try.prog 39 #[.pointer (some ⟨q, 0, none⟩), .slice C k capb] w fun e w' =>
      (lfits L k = false ∧ e = .returned (.int .i64 12) ∧ LC1 w0 w' p m q i res d L sv S) ∨
      (lfits L k = true ∧ e = .returned (.int .i64 0) ∧ ∃ d' L', LG w0 w' p m q d' L' sv ∧ SRow w0 w' w0.heap.size sv S ∧ P1 d' L' res (S ++ [r])) ∨
      (lfits L k = true ∧ e = .returned (.int .i64 13) ∧ ∃ d' L', LG w0 w' p m q d' L' sv ∧ SRow w0 w' w0.heap.size sv S ∧ P2 d' L' res S r) := by
  have hf := fits_p1 h.p1 k hl
  have hi := h.hi
  refine (h.lg.commit (h.p1.ok (by omega)) (by have := h.p1.few; omega) r k hk C capb hC hC0).mono ?_
  rintro e w' ⟨he, h1, h2⟩
  have hrow : SRow w0 w' w0.heap.size sv S := h.srow.bw h2 (h.srow.apart3 h.lg.disk.to h.lg.log)
  rcases commit_p1 h.p1 hr r (by omega) (by omega) with ⟨h3, h4⟩ | ⟨h3, ⟨L', d', h4, h5⟩ | ⟨L', d', h4, h5⟩⟩
  · rw [h4] at he h1
    exact .inl ⟨by rw [hf]; exact decide_eq_false (by omega), he, h1, hrow, h.p1, h.hi⟩
  · rw [h4] at he h1
    exact .inr (.inl ⟨by rw [hf]; exact decide_eq_true (by omega), he, d', L', h1, hrow, h5⟩)
  · rw [h4] at he h1
    exact .inr (.inr ⟨by rw [hf]; exact decide_eq_true (by omega), he, d', L', h1, hrow, h5⟩)
theorem LC2.commit (h : LC2 w0 w p m q res d L sv dv S x i) (r : List UInt8) (k : Nat) (hk : k = r.length) (C : Option Addr) (capb : Nat) (hC : Bs w w.heap.size C r) (hC0 : C = none → r = []) :
    Calls Try.prog 39 #[.pointer (some ⟨q, 0, none⟩), .slice C k capb] w fun e w' => e = .returned (.int .i64 14) ∧ LC2 w0 w' p m q res d L sv dv S x i := by
  refine (h.lg.commit h.p2.ok (by have := h.p2.few; omega) r k hk C capb hC hC0).mono ?_
  rintro e w' ⟨he, h1, h2⟩
  have hap := h.srow.apart3 h.lg.disk.to h.lg.log
  have hap2 := h.drow.apart3 h.lg.disk.to h.lg.log
  rw [commit_p2 (d := d) h.p2.broken r] at he h1
  exact ⟨he, h1, h.srow.bw h2 hap, h.drow.bw h2 hap2, h.p2, h.hi⟩
end
/-- behind the loop: only the disk and the rows. -/
structure LD (w0 w : World) (p m : Nat) (d : Dk) (sv dv : Value) (S D : List (List UInt8)) : Prop where
  disk : DiskAt w p m d
  below : Below w0.heap.size w0 w
  new : w0.heap.size ≤ p ∧ w0.heap.size ≤ m
  srow : SRow w0 w w0.heap.size sv S
  drow : SRow w0 w w0.heap.size dv D
theorem LD.after {w0 w w' : World} {p m : Nat} {d : Dk} {sv dv : Value} {S D : List (List UInt8)} (h : LD w0 w p m d sv dv S D) (hb : Below w.heap.size w w') : LD w0 w' p m d sv dv S D := ⟨h.disk.below hb, h.below.trans (hb.mono h.below.size), h.new, h.srow.below hb, h.drow.below hb⟩
theorem LD.step {w0 w w' : World} {p m : Nat} {d d' : Dk} {sv dv : Value} {S D : List (List UInt8)} (h : LD w0 w p m d sv dv S D) (hd : DiskAt w' p m d') (hw : Dw w w' p m) : LD w0 w' p m d' sv dv S D :=
  ⟨hd, below_dw h.below hw h.new.1 h.new.2, h.new, h.srow.bw hw.bw (h.srow.apart h.disk), h.drow.bw hw.bw (h.drow.apart h.disk)⟩
/-- what the disk holds behind the crash, and what is read of it. -/
def Opens (d : Dk) (res : Nat) (S D : List (List UInt8)) : Prop := ∃ R d', (R = S ∨ (D = S ++ (R.drop S.length) ∧ R = D ∧ R ≠ S)) ∧ lopen d [108] res = ⟨d', some ⟨[108], res, R.length, (framesL R).length, false⟩, R, 0⟩ ∧ lopen d' [108] res = ⟨d', some ⟨[108], res, R.length, (framesL R).length, false⟩, R, 0⟩ ∧ d'.used = (framesL R).length ∧ (framesL R).length ≤ res ∧ d.writes ≤ 1000 ∧ d'.writes ≤ 1001 ∧ R.length ≤ 41 ∧ (d.file [108]).b.length ≤ 5000 ∧ (d'.file [108]).b.length ≤ 5000
theorem opens_p1 {d : Dk} {L : Lg} {res : Nat} {S : List (List UInt8)} (h : P1 d L res S) (h1 : 1 ≤ res) (h2 : res ≤ 5000) (h40 : S.length ≤ 40) (t : List Int) : Opens (d.crash t) res S [] := by
  have ho := fs1_crash h.fs h.size t
  have hs : ∀ r ∈ S, r.length ≤ 65536 := fun r hr => by have := h.small r hr; omega
  have hf := h.few
  have hfit := h.fits
  have hl := lopen_again hs ho h1 h2 h.fits
  exact ⟨S, d.crash t, .inl rfl, hl, hl, ho.used, h.fits, by show d.writes ≤ 1000; omega, by show d.writes ≤ 1001; omega, by omega, by rw [ho.file]; omega, by rw [ho.file]; omega⟩
theorem opens_p2 {d : Dk} {L : Lg} {res : Nat} {S : List (List UInt8)} {x : List UInt8} (h : P2 d L res S x) (h1 : 1 ≤ res) (h2 : res ≤ 5000) (h40 : S.length ≤ 40) (t : List Int) : Opens (d.crash t) res S (S ++ [x]) := by
  obtain ⟨k, hk, ho⟩ := crash_p2 h t
  have hs : ∀ r ∈ S, r.length ≤ 65536 := fun r hr => by have := h.small r hr; omega
  have hx := h.smallx
  have hfit := h.fits
  obtain ⟨R, d', hR, hl, ho2, hle, hw⟩ := lopen_onef hs (by omega) hk ho h1 h2 h.fits
  have hrs : ∀ r ∈ R, r.length ≤ 65536 := fun r hr => by
    rcases hR with rfl | rfl
    · exact hs r hr
    · rcases List.mem_append.1 hr with h5 | h5
      · exact hs r h5
      · rw [List.mem_singleton.1 h5]; omega
  have hfl := frame_length x
  have hwc : (d.crash t).writes = d.writes := rfl
  have hf := h.few
  refine ⟨R, d', ?_, hl, lopen_again hrs ho2 h1 h2 hle, ho2.used, hle, by rw [hwc]; exact hf, by omega, ?_, ?_, by rw [ho2.file]; omega⟩
  · rcases hR with rfl | rfl
    · exact .inl rfl
    · exact .inr ⟨by simp, rfl, by simp⟩
  · rcases hR with rfl | rfl
    · omega
    · rw [List.length_append, List.length_singleton]; omega
  · rw [ho.file, List.length_append, List.length_take]; omega
end Go.Proofs.Ytdmodhcbcpmadaa
end

section
set_option linter.unusedSimpArgs false
set_option linter.unusedVariables false
namespace Go.Proofs.Ytdmodhcbcpmadaa
open Go.RowKit

theorem lists21_at (la lb : List (List UInt8)) (n m : Nat) (hn : n = la.length) (hm : m = lb.length) (hn2 : n ≤ 1000000) (hm2 : m ≤ 1000000) (A B : Option Addr) (ca cb : Nat) (w : World) (ha : Ls w w.heap.size A la) (hb : Ls w w.heap.size B lb) :
    Calls Try.prog 44 #[.slice A n ca, .slice B m cb] w fun e w' => e = .returned (.bool (decide (la = lb))) ∧ Below w.heap.size w w' := by
  subst hn hm
  exact lists21 la lb hn2 hm2 A B ca cb _ _ w ha (Nat.le_refl _) hb (Nat.le_refl _)
theorem Ls.at {w : World} {A : Option Addr} {l : List (List UInt8)} (h : Ls w w.heap.size A l) {i : Nat} (hi : i < l.length) : ∃ b off Ai ci, A = some ⟨b, off, none⟩ ∧ (Ai = none → l.getD i [] = []) ∧ Bs w w.heap.size Ai (l.getD i []) ∧
    ∀ W, Below w.heap.size w W → W.cell? ⟨b, off + i, none⟩ = some (.slice Ai (l.getD i []).length ci) ∧ Bs W W.heap.size Ai (l.getD i []) := by
  obtain ⟨b, off, e, hb, Ai, ci, hc, hbs, hn⟩ := h i hi
  exact ⟨b, off, Ai, ci, e, hn, hbs, fun W hW => ⟨(hW.cell (p := ⟨b, _, none⟩) hb).trans hc, (hbs.below hW).more hW.size⟩⟩
theorem vs_one {w0 : World} {S : List (List UInt8)} {vs : List Value} (hS : ∀ j, j < S.length → ∃ A c, vs[j]? = some (.slice A (S.getD j []).length c) ∧ Bs w0 w0.heap.size A (S.getD j []) ∧ (A = none → S.getD j [] = [])) (hl : vs.length = S.length) : ∀ u ∈ vs, u.oneCell' = true := by
  intro u hu
  obtain ⟨j, hj, rfl⟩ := List.mem_iff_getElem.1 hu
  obtain ⟨A, c, h1, _⟩ := hS j (by omega)
  rw [List.getElem?_eq_getElem hj] at h1
  injection h1 with h1
  rw [h1]
  rfl
theorem fs1_names {d : Dk} {S : List (List UInt8)} (h : Fs1 d S) : ∀ q ∈ d.fs, q.1.length ≤ 9223372036854775807 := by
  intro q hq
  rcases h with ⟨h1, _⟩ | h1
  · rw [h1] at hq; simp at hq
  · rw [h1] at hq
    simp only [List.mem_singleton] at hq
    rw [hq]
    show 1 ≤ _
    omega
theorem p2_names {d : Dk} {L : Lg} {res : Nat} {S : List (List UInt8)} {x : List UInt8} (h : P2 d L res S x) : ∀ q ∈ d.fs, q.1.length ≤ 9223372036854775807 := by
  rcases h.fs with h1 | ⟨k, h1, _⟩
  · exact fs1_names h1
  · intro q hq
    rw [h1] at hq
    simp only [List.mem_singleton] at hq
    rw [hq]
    show 1 ≤ _
    omega
/- the disk's use is told, and the round is at its end. -/
set_option maxRecDepth 100000 in
set_option maxHeartbeats 16000000 in
theorem logcrash_in (res : Nat) (hr1 : 1 ≤ res) (hr2 : res ≤ 5000) (stop : Nat) (hst : (stop : Int) ≤ 9223372036854775807) (l : List (List UInt8)) (A : Option Addr) (cap : Nat) (nl : Nat) (hnl : nl = l.length) (h40 : nl ≤ 40) (t : List Int) (tn : Nat) (htn : tn = t.length) (htl : tn ≤ 140737488351232) (T : Option Addr) (tc : Nat) (w : World) (hA : Ls w w.heap.size A l) (hT : Zs w w.heap.size T t) :
    Calls Try.prog 10 #[.slice A nl cap, .int .i64 res, .int .i64 stop, .slice T tn tc] w fun e w' => e = .returned (.bool true) ∧ Below w.heap.size w w' := by
  have HA := Lib.hid hA; have HNL := Lib.hid hnl; have HT := Lib.hid hT; have HTN := Lib.hid htn
  have HAW := Lib.hid (awake21 w)
  clear hA hnl hT htn
  go_enter Try.func10, Try.ntmps10
  go_wp2_with fail
  refine HAW.out.mono ?_
  rintro e w1 ⟨rfl, hb⟩
  have HB1 := Lib.hid hb
  clear hb HAW
  go_wp2_with fail
  refine (new_at 10000 (by decide) (by decide) w1).mono ?_
  rintro e w2 ⟨rfl, hd2, hb2⟩
  have HB2 := Lib.hid (HB1.out.trans (hb2.mono HB1.out.size))
  have HOP := Lib.hid (open_at hd2 (by decide) [108] (by decide) res (by decide))
  have hsz := HB1.out.size
  clear hd2 hb2
  go_wp2_with fail
  refine HOP.out.mono ?_
  intro e w3 h3
  obtain ⟨q, A3, c3, rfl, hs⟩ := s21_open (w0 := w) (n := 10000) (res := res) (by decide) hr1 (by omega) HB2.out (by omega) hsz h3
  have HS3 := Lib.hid hs
  clear h3 hs HOP
  have HST := Lib.hid (stop_at HS3.out.disk stop hst)
  generalize hp : w1.heap.size + 1 = p at *
  generalize hm : w1.heap.size = m at *
  clear hp hm
  go_wp2_with fail
  refine HST.out.mono ?_
  rintro e w4 ⟨rfl, hd4, hw4⟩
  have hq4 : LogAt w4 q p ⟨[108], res, 0, 0, false⟩ := (hw4.block _ HS3.out.log.lt (HS3.out.log.ne HS3.out.disk).1 (HS3.out.log.ne HS3.out.disk).2).trans HS3.out.log
  have hb4 := below_dw HS3.out.below hw4 HS3.out.new.1 HS3.out.new.2.1
  have hstop : ((emptyDk 10000).stop stop) = (⟨10000, [], stop, 0⟩, 0) := by unfold Dk.stop; rw [if_neg (by omega)]; rfl
  rw [hstop] at hd4 ⊢
  have HS : Hid (LC1 w w4 p m q 0 res ⟨10000, [], stop, 0⟩ ⟨[108], res, 0, 0, false⟩ (.slice none 0 0) []) := Lib.hid ⟨⟨.of_empty hd4 rfl (fun b _ h => by cases h), hq4, hb4, HS3.out.new⟩, .nil _ _ _, ⟨rfl, by show (-1 : Int) ≤ stop; omega, .inl ⟨rfl, rfl⟩, rfl, Nat.zero_le _, by simp, Nat.le_refl _⟩, Nat.le_refl _⟩
  clear hd4 hw4 hq4 hb4 hstop HS3 HST
  go_wp2_with fail
  go_loopw [15, 16, 17, 18, 19, 20] (fun sv dv iv _ _ _ wr => ∃ (i : Nat) (d : Dk) (L : Lg) (S : List (List UInt8)), i ≤ nl ∧ iv = .int .i64 i ∧ ((dv = .slice none 0 0 ∧ LC1 w wr p m q i res d L sv S) ∨ ∃ x, LC2 w wr p m q res d L sv dv S x i)) (fun _ _ iv _ _ _ _ => nl - (intOf iv).toNat)
  case atStart => exact ⟨0, _, _, _, by omega, rfl, .inl ⟨rfl, HS.out⟩⟩
  case round =>
    obtain ⟨i, d, L, S, hi, rfl, hst⟩ := hrel
    by_cases hlt : i < nl
    · obtain ⟨bl, off, Ai, ci, rfl, hnil, hbs, hcell⟩ := Ls.at HA.out (i := i) (by have := HNL.out; omega)
      have HNIL := Lib.hid hnil; have HBS := Lib.hid hbs
      have HCELL := Lib.hid hcell
      clear hnil hbs hcell
      generalize l.getD i [] = r at *
      obtain ⟨k, hk⟩ : ∃ k, k = r.length := ⟨_, rfl⟩
      rw [← hk] at HCELL
      have HK := Lib.hid hk
      clear hk
      have hq1 : (i : Int) < (nl : Int) := by omega
      rcases hst with ⟨rfl, hlc⟩ | ⟨x, hlc⟩
      · obtain ⟨As, cs, rfl⟩ := hlc.srow.shape
        have HL := Lib.hid hlc
        obtain ⟨ns, hns⟩ : ∃ ns, ns = S.length := ⟨_, rfl⟩
        have hns40 : ns ≤ 40 := by have := hlc.hi; omega
        have HNS := Lib.hid hns
        clear hlc
        rw [← hns] at HL ⊢
        clear hns
        have c1 := (HCELL.out wr HL.out.lg.below).1
        by_cases hlo : 300 < k
        · go_wp2_with fail
          go_ret
          exact ⟨rfl, HL.out.lg.below⟩
        have HFI := lfits_at HL.out.lg.log (HL.out.p1.ok (by omega)) (k : Int)
        have HCO : Hid (∀ W, LC1 w W p m q i res d L (.slice As ns cs) S → _) := Lib.hid fun W hW => LC1.commit hW hr2 (by omega) r k HK.out (by omega) Ai ci (HCELL.out W hW.lg.below).2 HNIL.out
        generalize lfits L k = fb at *
        have HFI := Lib.hid HFI
        go_wp2_with fail
        refine HFI.out.mono ?_
        rintro e w5 ⟨rfl, hb5⟩
        have HL5 := Lib.hid (HL.out.after hb5)
        have c2 := (HCELL.out w5 HL5.out.lg.below).1
        clear hb5 c1 HL
        go_wp2_with fail
        refine (HCO.out w5 HL5.out).mono ?_
        rintro e w6 (⟨rfl, rfl, h6⟩ | ⟨rfl, rfl, d', L', h6, h7, h8⟩ | ⟨rfl, rfl, d', L', h6, h7, h8⟩)
        · have HX := Lib.hid h6
          have HUSED : Hid (d.used ≤ res) := Lib.hid h6.p1.used
          clear h6 c2
          go_wp2_with fail
          refine (used_at HX.out.lg.disk.to).mono ?_
          rintro e w9 ⟨rfl, hb9⟩
          have HY := Lib.hid (HX.out.after hb9)
          have hu := HUSED.out
          clear hb9
          generalize Dk.used _ = us at *
          go_wp2_with fail
          go_roundw
          case rel => exact ⟨i + 1, _, _, _, by omega, by go_num, .inl ⟨rfl, HY.out.lg, HY.out.srow, HY.out.p1, by have := HY.out.hi; omega⟩⟩
          case measure => simp [intOf]; omega
        · obtain ⟨vs, ho, hS⟩ := h7
          have HO := Lib.hid ho; have HVS := Lib.hid hS; have HG := Lib.hid h6; have HP := Lib.hid h8
          have HAP := Lib.hid ((show SRow w w6 w.heap.size (.slice As ns cs) S from ⟨vs, ho, hS⟩).apart3 h6.disk.to h6.log)
          rw [← HNS.out] at HO
          have c3 := (HCELL.out w6 HG.out.below).1
          clear ho hS h6 h8 c2
          go_upto_region 19 with (at_builtin; refine wpList_append_one0 E46 rfl (.tmp 95) (.tmp 100) rfl w.heap.size (.slice Ai k ci) rfl _ ns vs rfl HO.out rfl (by omega) (by omega) w6 HG.out.below.size (Below.refl _ _) ?_; intro v7 w7 h2 h3 h4 h5; have O7 := Lib.hid h2; have G7 := Lib.hid h4; have V7 := Lib.hid h5; clear h2 h3 h4 h5; obtain ⟨A7, c7, rfl, _, _, _⟩ := own_rd O7.out)
          have HLC : Hid (LC1 w w7 p m q (i + 1) res d' L' (.slice A7 (ns + 1) c7) (S ++ [r])) := Lib.hid ⟨HG.out.row G7.out HAP.out (by
            rcases V7.out with e | e
            · exact .inl e
            · exact .inr ⟨_, e, Nat.le_succ _, (O7.out.lt _ e).2⟩) (fun k hk => (HO.out.lt k hk).1), SRow.snoc HVS.out (by have := HO.out.1; rw [this, Nat.mul_one, HNS.out]) (by have := O7.out; rw [HNS.out, HK.out] at this; rw [← HNS.out] at this ⊢; exact this) HBS.out HNIL.out, HP.out, by rw [List.length_append, List.length_singleton]; have := HL5.out.hi; omega⟩
          have HUSED : Hid (d'.used ≤ res) := Lib.hid HP.out.used
          go_wp2_with fail
          have HX := HLC
          clear c3
          refine (used_at HX.out.lg.disk.to).mono ?_
          rintro e w9 ⟨rfl, hb9⟩
          have HY := Lib.hid (HX.out.after hb9)
          have hu := HUSED.out
          clear hb9
          generalize Dk.used _ = us at *
          go_wp2_with fail
          go_roundw
          case rel => exact ⟨i + 1, _, _, _, by omega, by go_num, .inl ⟨rfl, HY.out⟩⟩
          case measure => simp [intOf]; omega
        · obtain ⟨vs, ho, hS⟩ := h7
          have HO := Lib.hid ho; have HVS := Lib.hid hS; have HG := Lib.hid h6; have HP := Lib.hid h8
          have HSR : Hid (SRow w w6 w.heap.size (.slice As ns cs) S) := Lib.hid ⟨vs, ho, hS⟩
          rw [← HNS.out] at HO
          have HVL : Hid (vs.length = ns * 1) := Lib.hid HO.out.1
          have HV1 := Lib.hid (vs_one hS (by have := ho.1; rw [this, Nat.mul_one]))
          have HRDV : Hid (Rd w6 w6.heap.size As vs ∧ (As = none → ns = 0)) := Lib.hid (by
            obtain ⟨A', c', e, hr, h0, _⟩ := own_rd HO.out
            injection e with e1 e2 e3
            subst e1
            exact ⟨hr, h0⟩)
          clear ho hS h6 h8 c2
          have HCC : Hid (∀ W, Below w6.heap.size w6 W → W.cell? ⟨bl, off + i, none⟩ = some (.slice Ai k ci)) := Lib.hid fun W hW => (HCELL.out W (HG.out.below.trans (hW.mono HG.out.below.size))).1
          go_upto_region 20 with fail
          apply wp_region_relS 8 [.inr (NewR w6.heap.size 29 #[] 0), (Sum.inl _ : TT), .inr (OwnRS w6.heap.size 29 1 ns vs), (Sum.inl _ : TT), (Sum.inl _ : TT), (Sum.inl _ : TT), (Sum.inl _ : TT), .inr (NewR w6.heap.size 29 #[.slice Ai k ci] 1)] (by kernel_rfl) (by kernel_rfl) rfl
          simp only [List.take_succ_cons, List.take_zero, List.drop_succ_cons, List.drop_zero]
          refine rel_fitsS (fun W hW hf => ?_) (NewR.keepsS _ _ _ _) fun v0 => ?_
          · go_simp
            exact newR_alloc hW (Nat.le_refl _)
          simp only [Act.put, List.setIfInBounds_toArray, List.set_cons_succ, List.set_cons_zero]
          iterate 1 (apply rel_isS; (intro W hW hf; go_simp; first | exact ⟨StayS.refl _ _, rfl⟩ | rfl); simp only [Act.put, List.setIfInBounds_toArray, List.set_cons_succ, List.set_cons_zero])
          refine rel_fitsS (fun W hW hf => ?_) (OwnRS.keepsS _ _ _ _ _) fun v1 => ?_
          · have h0 := hf (109, NewR w6.heap.size 29 #[] 0 v0) (by simp) (by simp [Oper.looksAt, Op.operands, Call.operands])
            exact relOp_append_emptyS ES46 hW rfl (.tmp 109) (.tmp 110) rfl v0 h0 rfl W.heap.size As vs ns cs rfl HVL.out ((HRDV.out.1.keep fun b o hb => hW.cell (p := ⟨b, o, none⟩) hb).more hW.size) HRDV.out.2 HV1.out (by omega) (by omega)
          simp only [Act.put, List.setIfInBounds_toArray, List.set_cons_succ, List.set_cons_zero]
          iterate 4 (apply rel_isS; (intro W hW hf; have hx1 := HCC.out W hW; go_simp; first | exact ⟨StayS.refl _ _, rfl⟩ | rfl); simp only [Act.put, List.setIfInBounds_toArray, List.set_cons_succ, List.set_cons_zero])
          refine rel_fitsS (fun W hW hf => ?_) (NewR.keepsS _ _ _ _) fun v2 => ?_
          · go_simp
            exact newR_alloc hW (Nat.le_refl _)
          simp only [Act.put, List.setIfInBounds_toArray, List.set_cons_succ, List.set_cons_zero]
          refine rel_endS ?_
          intro W hW hf
          try simp only [Act.put, List.setIfInBounds_toArray, List.set_cons_succ, List.set_cons_zero]
          have h1 := hf (111, OwnRS w6.heap.size 29 1 ns vs v1) (by simp)
          have h2 := hf (116, NewR w6.heap.size 29 #[.slice Ai k ci] 1 v2) (by simp)
          obtain ⟨g2, rfl, hg2, hx2⟩ := h2
          have H1 := Lib.hid h1; have Hx2 := Lib.hid hx2; have HbW := Lib.hid hW
          clear h1 hf hx2 hW
          go_wp2_with (at_builtin; refine wpList_append_srcS ES46 rfl (.tmp 111) (.tmp 116) rfl w6.heap.size v1 ns vs rfl H1.out (g2 + 1) (some ⟨g2, 0, none⟩) [.slice Ai k ci] 1 1 rfl rfl (fun j u hu => ⟨g2, 0, rfl, by omega, by rw [cell_blk Hx2.out]; simpa using hu⟩) (fun h => by cases h) (by intro u hu; simp at hu; subst hu; rfl) (by omega) (by omega) w6 (Nat.le_refl _) HbW.out ?_; intro v8 w8 h2 h3 h4 h5; have O8 := Lib.hid h2; have B8 := Lib.hid h3; clear h2 h3 h4 h5; obtain ⟨A8, c8, rfl, _, _, _⟩ := own_rd O8.out
                       have HX : Hid (LC2 w w8 p m q res d' L' (.slice As ns cs) (.slice A8 (ns + 1) c8) S r (i + 1)) := Lib.hid ⟨HG.out.after B8.out, HSR.out.below B8.out, SRow.snoc HVS.out (by rw [HVL.out, Nat.mul_one, HNS.out]) (by have := own_less O8.out HG.out.below.size; rw [HNS.out, HK.out] at this; rw [← HNS.out] at this ⊢; exact this) HBS.out HNIL.out, HP.out, by have := HL5.out.hi; omega⟩
                       have HUSED : Hid (d'.used ≤ res) := Lib.hid HP.out.used)
          refine (used_at HX.out.lg.disk.to).mono ?_
          rintro e w9 ⟨rfl, hb9⟩
          have HY := Lib.hid (HX.out.after hb9)
          have hu := HUSED.out
          clear hb9
          generalize Dk.used _ = us at *
          go_wp2_with fail
          go_roundw
          case rel => exact ⟨i + 1, _, _, _, by omega, by go_num, .inr ⟨r, HY.out⟩⟩
          case measure => simp [intOf]; omega
      · obtain ⟨As, cs, rfl⟩ := hlc.srow.shape
        obtain ⟨Ad, cd, rfl⟩ := hlc.drow.shape
        have HL := Lib.hid hlc
        obtain ⟨ns, hns⟩ : ∃ ns, ns = S.length := ⟨_, rfl⟩
        obtain ⟨nd, hnd⟩ : ∃ nd, nd = (S ++ [x]).length := ⟨_, rfl⟩
        have gnd : ((nd : Int) == 0) = false := by rw [beq_eq_false_iff_ne, hnd, List.length_append, List.length_singleton]; omega
        have hnd0 : 0 < nd := by rw [hnd, List.length_append, List.length_singleton]; omega
        have HNS := Lib.hid hns
        clear hlc
        rw [← hns, ← hnd] at HL ⊢
        clear hns hnd
        have c1 := (HCELL.out wr HL.out.lg.below).1
        by_cases hlo : 300 < k
        · go_wp2_with fail
          go_ret
          exact ⟨rfl, HL.out.lg.below⟩
        have HFI := lfits_at HL.out.lg.log HL.out.p2.ok (k : Int)
        generalize lfits L k = fb at *
        have HFI := Lib.hid HFI
        go_wp2_with fail
        refine HFI.out.mono ?_
        rintro e w5 ⟨rfl, hb5⟩
        have HL5 := Lib.hid (HL.out.after hb5)
        have c2 := (HCELL.out w5 HL5.out.lg.below).1
        clear hb5 c1 HL
        have HCO := Lib.hid (HL5.out.commit r k HK.out Ai ci (HCELL.out w5 HL5.out.lg.below).2 HNIL.out)
        go_wp2_with fail
        refine HCO.out.mono ?_
        rintro e w6 ⟨rfl, h6⟩
        have HX := Lib.hid h6
        have HUSED : Hid (d.used ≤ res) := Lib.hid h6.p2.used
        clear h6 c2
        go_wp2_with fail
        refine (used_at HX.out.lg.disk.to).mono ?_
        rintro e w9 ⟨rfl, hb9⟩
        have HY := Lib.hid (HX.out.after hb9)
        have hu := HUSED.out
        clear hb9
        generalize Dk.used _ = us at *
        go_wp2_with fail
        go_roundw
        case rel => exact ⟨i + 1, _, _, _, by omega, by go_num, .inr ⟨x, HY.out.lg, HY.out.srow, HY.out.drow, HY.out.p2, by have := HY.out.hi; omega⟩⟩
        case measure => simp [intOf]; omega
    · obtain rfl : i = nl := by omega
      rcases hst with ⟨rfl, hlc⟩ | ⟨x, hlc⟩
      · obtain ⟨As, cs, rfl⟩ := hlc.srow.shape
        obtain ⟨ns, hns⟩ : ∃ ns, ns = S.length := ⟨_, rfl⟩
        have HNS : Hid (ns = S.length ∧ ns ≤ 40) := Lib.hid ⟨hns, by have := hlc.hi; omega⟩
        have HLD : Hid (LD w wr p m d (.slice As S.length cs) (.slice none 0 0) S []) := Lib.hid ⟨hlc.lg.disk.to, hlc.lg.below, ⟨hlc.lg.new.1, hlc.lg.new.2.1⟩, hlc.srow, .nil _ _ _⟩
        have HKS := Lib.hid (fs1_names hlc.p1.fs)
        have HOP := Lib.hid (opens_p1 hlc.p1 hr1 hr2 (by have := hlc.hi; omega) t)
        rw [← hns] at HLD ⊢
        clear hlc hns
        go_wp2_with fail
        refine (crash_at HLD.out.disk HKS.out t tn HTN.out (by omega) T tc ((HT.out.below HLD.out.below).more HLD.out.below.size)).mono ?_
        rintro e w5 ⟨rfl, hd5, hw5⟩
        have HL5 := Lib.hid (HLD.out.step hd5 hw5)
        obtain ⟨R, d2, hR, hl1, hl2, hu2, hres, hwr1, hwr2, hRl, hf1, hf2⟩ := HOP.out
        have HRR := Lib.hid hR
        have HO1 := open_at HL5.out.disk (by omega) [108] (by decide) res (by omega)
        rw [hl1] at HO1
        have HO1 := Lib.hid HO1
        have HL2 := Lib.hid hl2
        clear hd5 hw5 hl1 hl2 hR
        go_wp2_with fail
        refine HO1.out.mono ?_
        rintro e w6 ⟨hd6, hw6, pv, Aa, ca, rfl, hls, hA0, hca, qa, rfl, hla, hqa⟩
        have HL6 := Lib.hid (HL5.out.step hd6 hw6)
        have HLS6 := Lib.hid hls
        have HO2 := open_at HL6.out.disk (show d2.writes < 100000000000 by omega) [108] (by decide) res (show (d2.file [108]).b.length ≤ 1000000 by omega)
        have e2 := HL2.out
        simp only at HO2
        rw [e2] at HO2
        have HO2 := Lib.hid HO2
        clear hd6 hw6 hls hA0 hca hla hqa e2 HO1
        simp only
        go_wp2_with fail
        refine HO2.out.mono ?_
        rintro e w7 ⟨hd7, hw7, pv, Ab, cb, rfl, hls, hA0, hcb, qb, rfl, hlb, hqb⟩
        have HL7 := Lib.hid (HL6.out.step hd7 hw7)
        have HLSA := Lib.hid ((hw7.bw.ls HL6.out.disk.noSl (Nat.le_refl _) HLS6.out).more hw7.size)
        have HLSB := Lib.hid hls
        have HLG := Lib.hid hlb
        clear hd7 hw7 hls hA0 hcb hqb HO2 HLS6
        simp only at HLSA HLSB HLG ⊢
        obtain ⟨nR, hnR⟩ : ∃ nR, nR = R.length := ⟨_, rfl⟩
        rw [← hnR] at hRl ⊢
        obtain ⟨uR, huR⟩ : ∃ uR, uR = (framesL R).length := ⟨_, rfl⟩
        rw [← huR] at hu2 hres
        have HNR := Lib.hid hnR; have HUR := Lib.hid huR
        clear hnR huR
        have HLI := lists21_at R R nR nR HNR.out HNR.out (by omega) (by omega) Aa Ab ca cb w7 HLSA.out HLSB.out
        rw [decide_eq_true rfl] at HLI
        have HLI := Lib.hid HLI
        go_wp2_with fail
        refine HLI.out.mono ?_
        rintro e w8 ⟨rfl, hb⟩
        have HL8 := Lib.hid (HL7.out.after hb)
        have HLSA8 := Lib.hid ((HLSA.out.below hb).more hb.size)
        have HLG8 : Hid (LogAt w8 qb p ⟨[108], res, R.length, (framesL R).length, false⟩) := Lib.hid ((hb.block _ HLG.out.lt).trans HLG.out)
        clear hb HLI HLSA HLSB HLG
        have HU8 := used_at HL8.out.disk
        rw [hu2] at HU8
        have HU8 := Lib.hid HU8
        go_wp2_with fail
        refine HU8.out.mono ?_
        rintro e w9 ⟨rfl, hb⟩
        have HL9 := Lib.hid (HL8.out.after hb)
        have HLSA9 := Lib.hid ((HLSA8.out.below hb).more hb.size)
        have HLG9 : Hid (LogAt w9 qb p ⟨[108], res, R.length, (framesL R).length, false⟩) := Lib.hid ((hb.block _ HLG8.out.lt).trans HLG8.out)
        clear hb HU8 HLSA8 HLG8
        have HN9 := llen_at HLG9.out
        have HZ9 := lsize_at HLG9.out
        simp only at HN9 HZ9
        rw [← HNR.out] at HN9
        rw [← HUR.out] at HZ9
        have HN9 := Lib.hid HN9; have HZ9 := Lib.hid HZ9
        go_wp2_with fail
        refine HN9.out.mono ?_
        rintro e w10 ⟨rfl, rfl⟩
        go_wp2_with fail
        refine HZ9.out.mono ?_
        rintro e w11 ⟨rfl, rfl⟩
        have HU8 := used_at HL9.out.disk
        rw [hu2] at HU8
        have HU8 := Lib.hid HU8
        go_wp2_with fail
        refine HU8.out.mono ?_
        rintro e w12 ⟨rfl, hb⟩
        have HL12 := Lib.hid (HL9.out.after hb)
        have HLSA12 := Lib.hid ((HLSA9.out.below hb).more hb.size)
        clear hb HU8 HLSA9 HLG9 HN9 HZ9
        have hns40 := HNS.out.2
        have HLI2 := lists21_at R S nR ns HNR.out HNS.out.1 (by omega) (by omega) Aa As ca cs w12 HLSA12.out (HL12.out.srow.ls HL12.out.below)
        by_cases hRS : R = S
        · rw [decide_eq_true hRS] at HLI2
          have HLI2 := Lib.hid HLI2
          clear hRS
          go_wp2_with fail
          refine HLI2.out.mono ?_
          rintro e w13 ⟨rfl, hb⟩
          have HL13 := Lib.hid (HL12.out.after hb)
          clear hb
          go_wp2_with fail
          go_ret
          exact ⟨rfl, HL13.out.below⟩
        · exfalso
          rcases HRR.out with h | ⟨h1, h2, h3⟩
          · exact hRS h
          · exact h3 (by rw [h2]; exact (List.append_eq_nil_iff.1 h1.symm).1.symm)
      · obtain ⟨As, cs, rfl⟩ := hlc.srow.shape
        obtain ⟨Ad, cd, rfl⟩ := hlc.drow.shape
        obtain ⟨ns, hns⟩ : ∃ ns, ns = S.length := ⟨_, rfl⟩
        obtain ⟨nd, hnd⟩ : ∃ nd, nd = (S ++ [x]).length := ⟨_, rfl⟩
        have HNS : Hid (ns = S.length ∧ ns ≤ 40) := Lib.hid ⟨hns, by have := hlc.hi; omega⟩
        have HND : Hid (nd = (S ++ [x]).length ∧ 0 < nd ∧ nd ≤ 41) := Lib.hid ⟨hnd, by rw [hnd, List.length_append, List.length_singleton]; have := HNS.out; omega⟩
        have HLD : Hid (LD w wr p m d (.slice As S.length cs) (.slice Ad (S ++ [x]).length cd) S (S ++ [x])) := Lib.hid ⟨hlc.lg.disk.to, hlc.lg.below, ⟨hlc.lg.new.1, hlc.lg.new.2.1⟩, hlc.srow, hlc.drow⟩
        have HKS := Lib.hid (p2_names hlc.p2)
        have HOP := Lib.hid (opens_p2 hlc.p2 hr1 hr2 (by have := hlc.hi; omega) t)
        rw [← hns, ← hnd] at HLD ⊢
        clear hlc hns hnd
        go_wp2_with fail
        refine (crash_at HLD.out.disk HKS.out t tn HTN.out (by omega) T tc ((HT.out.below HLD.out.below).more HLD.out.below.size)).mono ?_
        rintro e w5 ⟨rfl, hd5, hw5⟩
        have HL5 := Lib.hid (HLD.out.step hd5 hw5)
        obtain ⟨R, d2, hR, hl1, hl2, hu2, hres, hwr1, hwr2, hRl, hf1, hf2⟩ := HOP.out
        have HRR := Lib.hid hR
        have HO1 := open_at HL5.out.disk (by omega) [108] (by decide) res (by omega)
        rw [hl1] at HO1
        have HO1 := Lib.hid HO1
        have HL2 := Lib.hid hl2
        clear hd5 hw5 hl1 hl2 hR
        go_wp2_with fail
        refine HO1.out.mono ?_
        rintro e w6 ⟨hd6, hw6, pv, Aa, ca, rfl, hls, hA0, hca, qa, rfl, hla, hqa⟩
        have HL6 := Lib.hid (HL5.out.step hd6 hw6)
        have HLS6 := Lib.hid hls
        have HO2 := open_at HL6.out.disk (show d2.writes < 100000000000 by omega) [108] (by decide) res (show (d2.file [108]).b.length ≤ 1000000 by omega)
        have e2 := HL2.out
        simp only at HO2
        rw [e2] at HO2
        have HO2 := Lib.hid HO2
        clear hd6 hw6 hls hA0 hca hla hqa e2 HO1
        simp only
        go_wp2_with fail
        refine HO2.out.mono ?_
        rintro e w7 ⟨hd7, hw7, pv, Ab, cb, rfl, hls, hA0, hcb, qb, rfl, hlb, hqb⟩
        have HL7 := Lib.hid (HL6.out.step hd7 hw7)
        have HLSA := Lib.hid ((hw7.bw.ls HL6.out.disk.noSl (Nat.le_refl _) HLS6.out).more hw7.size)
        have HLSB := Lib.hid hls
        have HLG := Lib.hid hlb
        clear hd7 hw7 hls hA0 hcb hqb HO2 HLS6
        simp only at HLSA HLSB HLG ⊢
        obtain ⟨nR, hnR⟩ : ∃ nR, nR = R.length := ⟨_, rfl⟩
        rw [← hnR] at hRl ⊢
        obtain ⟨uR, huR⟩ : ∃ uR, uR = (framesL R).length := ⟨_, rfl⟩
        rw [← huR] at hu2 hres
        have HNR := Lib.hid hnR; have HUR := Lib.hid huR
        clear hnR huR
        have HLI := lists21_at R R nR nR HNR.out HNR.out (by omega) (by omega) Aa Ab ca cb w7 HLSA.out HLSB.out
        rw [decide_eq_true rfl] at HLI
        have HLI := Lib.hid HLI
        go_wp2_with fail
        refine HLI.out.mono ?_
        rintro e w8 ⟨rfl, hb⟩
        have HL8 := Lib.hid (HL7.out.after hb)
        have HLSA8 := Lib.hid ((HLSA.out.below hb).more hb.size)
        have HLG8 : Hid (LogAt w8 qb p ⟨[108], res, R.length, (framesL R).length, false⟩) := Lib.hid ((hb.block _ HLG.out.lt).trans HLG.out)
        clear hb HLI HLSA HLSB HLG
        have HU8 := used_at HL8.out.disk
        rw [hu2] at HU8
        have HU8 := Lib.hid HU8
        go_wp2_with fail
        refine HU8.out.mono ?_
        rintro e w9 ⟨rfl, hb⟩
        have HL9 := Lib.hid (HL8.out.after hb)
        have HLSA9 := Lib.hid ((HLSA8.out.below hb).more hb.size)
        have HLG9 : Hid (LogAt w9 qb p ⟨[108], res, R.length, (framesL R).length, false⟩) := Lib.hid ((hb.block _ HLG8.out.lt).trans HLG8.out)
        clear hb HU8 HLSA8 HLG8
        have HN9 := llen_at HLG9.out
        have HZ9 := lsize_at HLG9.out
        simp only at HN9 HZ9
        rw [← HNR.out] at HN9
        rw [← HUR.out] at HZ9
        have HN9 := Lib.hid HN9; have HZ9 := Lib.hid HZ9
        go_wp2_with fail
        refine HN9.out.mono ?_
        rintro e w10 ⟨rfl, rfl⟩
        go_wp2_with fail
        refine HZ9.out.mono ?_
        rintro e w11 ⟨rfl, rfl⟩
        have HU8 := used_at HL9.out.disk
        rw [hu2] at HU8
        have HU8 := Lib.hid HU8
        go_wp2_with fail
        refine HU8.out.mono ?_
        rintro e w12 ⟨rfl, hb⟩
        have HL12 := Lib.hid (HL9.out.after hb)
        have HLSA12 := Lib.hid ((HLSA9.out.below hb).more hb.size)
        clear hb HU8 HLSA9 HLG9 HN9 HZ9
        have hns40 := HNS.out.2
        have HLI2 := lists21_at R S nR ns HNR.out HNS.out.1 (by omega) (by omega) Aa As ca cs w12 HLSA12.out (HL12.out.srow.ls HL12.out.below)
        by_cases hRS : R = S
        · rw [decide_eq_true hRS] at HLI2
          have HLI2 := Lib.hid HLI2
          clear hRS
          go_wp2_with fail
          refine HLI2.out.mono ?_
          rintro e w13 ⟨rfl, hb⟩
          have HL13 := Lib.hid (HL12.out.after hb)
          clear hb
          go_wp2_with fail
          go_ret
          exact ⟨rfl, HL13.out.below⟩
        · have hRD : R = S ++ [x] := by
            rcases HRR.out with h | ⟨h1, h2, h3⟩
            · exact absurd h hRS
            · exact h2
          rw [decide_eq_false hRS] at HLI2
          have HLI2 := Lib.hid HLI2
          clear hRS
          have hnd := HND.out.2
          have gnd : ((0 : Int) < (nd : Int)) := by omega
          go_wp2_with fail
          refine HLI2.out.mono ?_
          rintro e w13 ⟨rfl, hb⟩
          have HL13 := Lib.hid (HL12.out.after hb)
          have HLI3 := lists21_at R (S ++ [x]) nR nd HNR.out HND.out.1 (by omega) (by omega) Aa Ad ca cd w13 ((HLSA12.out.below hb).more hb.size) (HL13.out.drow.ls HL13.out.below)
          rw [decide_eq_true hRD] at HLI3
          have HLI3 := Lib.hid HLI3
          clear hb hRD
          go_wp2_with fail
          refine HLI3.out.mono ?_
          rintro e w14 ⟨rfl, hb⟩
          have HL14 := Lib.hid (HL13.out.after hb)
          clear hb
          go_wp2_with fail
          go_ret
          exact ⟨rfl, HL14.out.below⟩
set_option maxRecDepth 100000 in
set_option maxHeartbeats 2000000 in
theorem logcrash_walk (l : List (List UInt8)) (A : Option Addr) (cap : Nat) (res stop : Int) (t : List Int) (T : Option Addr) (tc : Nat) (w : World) (hA : Ls w w.heap.size A l) (hl : l.length ≤ 140737488351232 ∧ ∀ x ∈ l, x.length ≤ 140737488351232) (hr : (-9223372036854775808 : Int) ≤ res ∧ res ≤ 9223372036854775807) (hs : (-9223372036854775808 : Int) ≤ stop ∧ stop ≤ 9223372036854775807)
    (hT : Zs w w.heap.size T t) (hT0 : T = none → t.length = 0) (hTl : t.length ≤ 140737488351232) (hTc : t.length ≤ tc) (hTw : Zw t) :
    Calls Try.prog 10 #[.slice A l.length cap, .int .i64 res, .int .i64 stop, .slice T t.length tc] w fun e w' => e = .returned (.bool true) ∧ Below w.heap.size w w' := by
  obtain ⟨nl, hnl⟩ : ∃ nl, nl = l.length := ⟨_, rfl⟩
  obtain ⟨tn, htn⟩ : ∃ tn, tn = t.length := ⟨_, rfl⟩
  rw [← hnl] at hl ⊢
  rw [← htn] at hTl hTc ⊢
  have hn63 := hl.1
  by_cases hin : nl ≤ 40 ∧ 1 ≤ res ∧ res ≤ 5000 ∧ 0 ≤ stop
  · obtain ⟨h1, h2, h3, h4⟩ := hin
    obtain ⟨R, rfl⟩ : ∃ R : Nat, res = R := ⟨res.toNat, by omega⟩
    obtain ⟨P, rfl⟩ : ∃ P : Nat, stop = P := ⟨stop.toNat, by omega⟩
    exact logcrash_in R (by omega) (by omega) P hs.2 l A cap nl hnl h1 t tn htn hTl T tc w hA hT
  · have HAW := Lib.hid (awake21 w)
    clear hA hl hr hs hnl hT hT0 hTc hTw htn
    by_cases h1 : 40 < nl
    · skip
      go_enter Try.func10, Try.ntmps10
      go_wp2_with fail
      refine HAW.out.mono ?_
      rintro e w1 ⟨rfl, hb⟩
      have HB1 := Lib.hid hb
      clear hb HAW
      go_wp2_with fail
      go_ret
      exact ⟨rfl, HB1.out⟩
    by_cases h2 : res < 1
    · skip
      go_enter Try.func10, Try.ntmps10
      go_wp2_with fail
      refine HAW.out.mono ?_
      rintro e w1 ⟨rfl, hb⟩
      have HB1 := Lib.hid hb
      clear hb HAW
      go_wp2_with fail
      go_ret
      exact ⟨rfl, HB1.out⟩
    by_cases h3 : 5000 < res
    · skip
      go_enter Try.func10, Try.ntmps10
      go_wp2_with fail
      refine HAW.out.mono ?_
      rintro e w1 ⟨rfl, hb⟩
      have HB1 := Lib.hid hb
      clear hb HAW
      go_wp2_with fail
      go_ret
      exact ⟨rfl, HB1.out⟩
    have h4 : stop < 0 := by omega
    go_enter Try.func10, Try.ntmps10
    go_wp2_with fail
    refine HAW.out.mono ?_
    rintro e w1 ⟨rfl, hb⟩
    have HB1 := Lib.hid hb
    clear hb HAW
    go_wp2_with fail
    go_ret
    exact ⟨rfl, HB1.out⟩
end Go.Proofs.Ytdmodhcbcpmadaa
end
