/- (*code.reader).node. -/
import Derived.Test.YtbmpjphemjponaaWs
set_option linter.unusedSimpArgs false
set_option linter.unusedVariables false
namespace Go.Proofs.Ytbmpjphemjponaa
open Go.RowKit

theorem two_set {w : World} {g : Nat} {cs : Array Value} {T : TypeId} (h : w.heap[g]? = some (.cells cs T (0, 0))) (i j : Nat) (x y : Value) : ((w.setCell ⟨g, i, none⟩ x).setCell ⟨g, j, none⟩ y).heap[g]? = some (.cells ((cs.setIfInBounds i x).setIfInBounds j y) T (0, 0)) ∧ w.grownBy ((w.setCell ⟨g, i, none⟩ x).setCell ⟨g, j, none⟩ y) (some g) ∧ Below g w ((w.setCell ⟨g, i, none⟩ x).setCell ⟨g, j, none⟩ y) :=
  ⟨set_blk (set_blk h i x) j y, grown_setCell (grown_setCell (World.grownBy.refl w (some g)) (p := ⟨g, i, none⟩) rfl x) (p := ⟨g, j, none⟩) rfl y, Below.setCell (p := ⟨g, j, none⟩) (below_set1 w g i x) (Nat.le_refl _) y⟩
theorem spares_row' {w : World} {g : Nat} {T : TypeId} {old cs : Array Value} (h : w.heap[g]? = some (.cells old T (0, 0))) : Spares T w (w.setRow g cs) :=
  Spares.grown ⟨rfl, rfl, rfl, by simp, fun k _ hne => setRow_other w g k cs (fun e => hne (by rw [e]))⟩ fun k hk => by injection hk with hk; subst hk; exact ⟨old, (0, 0), h⟩
theorem rdI_lit {s : Rst} (h : (rdN 1 s).1 = 1) : rdI s = (⟨(rdN 1 s).1, (rdN 1 (rdN 1 s).2).1, (rdV (rdN 1 (rdN 1 s).2).2).1⟩, (rdV (rdN 1 (rdN 1 s).2).2).2) := if_pos h
theorem rdI_not {s : Rst} (h : (rdN 1 s).1 ≠ 1) : rdI s = (⟨(rdN 1 s).1, (rdN 1 (rdN 1 s).2).1, Vl.zero⟩, (rdN 1 (rdN 1 s).2).2) := if_neg h
theorem own_ne {w : World} {base n sz : Nat} {e : TypeId} {v : Value} {xs : List Value} (h : w.ownsRow base e sz v n xs) {g : Nat} (hg : w.heap.size ≤ g) : v.ownBlock ≠ some g := by
  intro e; have := (h.lt g e).2; omega
theorem OwI.kept {w w' : World} {L g : Nat} {p : Slc} {l : List Ins} (h : OwI w L p l) (hg : w.grownBy w' (some g)) (hne : (sv p l.length).ownBlock ≠ some g) : OwI w' L p l := World.ownsRow.kept h hg (.inr hne)
theorem OwI.rk {w w' : World} {L g : Nat} {p : Slc} {l : List Ins} (h : OwI w L p l) (hk : RK g w w') : OwI w' L p l := h.spares hk.1 (by decide)
/-- what is read: a node by value. -/
def GotNd (L g : Nat) (x : Nd) (s : Rst) (w : World) (e : Ending) (w' : World) : Prop := ∃ p : Slc, e = .returned (ndv x p) ∧ OwI w' L p x.code ∧ RdS w' g s ∧ RK g w w'
set_option maxRecDepth 100000 in
set_option maxHeartbeats 4000000 in
theorem node_rd (s : Rst) (g : Nat) (w : World) (hs : RdS w g s) :
    Calls Try.prog 44 #[.pointer (some ⟨g, 0, none⟩)] w (GotNd w.heap.size g (rdNd s).1 (rdNd s).2 w) := by
  have HS := Lib.hid hs
  have hg := hs.lt
  have HN := Lib.hid (fun k (h1 : 1 ≤ k) (h8 : k ≤ 8) W s h => number_rd k h1 h8 s g W h)
  have HVL := Lib.hid (fun W s h => value_rd s g W h)
  have l2 := rdN_lt 2 s
  generalize hc : rdL rdI (rdN 2 s).1 (rdN 2 s).2 [] = total
  have HV : Hid (rdNd s = (⟨total.1, (rdN 1 total.2).1, (rdN 1 (rdN 1 total.2).2).1, (rdN 2 (rdN 1 (rdN 1 total.2).2).2).1, (rdN 2 (rdN 2 (rdN 1 (rdN 1 total.2).2).2).2).1⟩, (rdN 2 (rdN 2 (rdN 1 (rdN 1 total.2).2).2).2).2)) := Lib.hid (by rw [← hc]; rfl)
  have HC := Lib.hid hc
  have H2 := Lib.hid (HN.out 2 (by omega) (by omega) w s hs)
  have N0 := Lib.hid (fun W h => HN.out 2 (by omega) (by omega) W s h)
  clear hs hc H2
  generalize rdNd s = res at *
  generalize rdN 2 s = r2 at *
  obtain ⟨n, s1⟩ := r2
  dsimp only at *
  have wn : IntKind.i64.wrap (n : Int) = n := wi64 _ (by omega) (by omega)
  go_enter Try.func44, Try.ntmps44
  go_upto_region 2 with (fail)
  obtain ⟨b0_, b1_, hb_⟩ := boxes2 w (.cells #[.slice none 0 0, .int .i64 0, .int .i64 0, .int .i64 0, .int .i64 0] 60) (.cells #[.slice none 0 0, .int .i64 0, .int .i64 0, .int .i64 0, .int .i64 0] 60)
  generalize (w.alloc (.cells #[.slice none 0 0, .int .i64 0, .int .i64 0, .int .i64 0, .int .i64 0] 60)).alloc (.cells #[.slice none 0 0, .int .i64 0, .int .i64 0, .int .i64 0, .int .i64 0] 60) = w0 at *
  have T2b : Hid (∀ W, Below w0.heap.size w0 W → W.heap[w.heap.size]? = some (.cells #[.slice none 0 0, .int .i64 0, .int .i64 0, .int .i64 0, .int .i64 0] 60 (0, 0))) := Lib.hid (fun W hW => (hW.block _ (lt_blk b0_)).trans b0_)
  have T2 : Hid (∀ W, Below w0.heap.size w0 W → W.cell? ⟨w.heap.size, 0, none⟩ = some (.slice none 0 0) ∧ W.cell? ⟨w.heap.size, 1, none⟩ = some (.int .i64 0) ∧ W.cell? ⟨w.heap.size, 2, none⟩ = some (.int .i64 0) ∧ W.cell? ⟨w.heap.size, 3, none⟩ = some (.int .i64 0) ∧ W.cell? ⟨w.heap.size, 4, none⟩ = some (.int .i64 0)) := Lib.hid (fun W hW => by have e := (hW.block _ (lt_blk b0_)).trans b0_; exact ⟨by rw [cell_blk e]; rfl, by rw [cell_blk e]; rfl, by rw [cell_blk e]; rfl, by rw [cell_blk e]; rfl, by rw [cell_blk e]; rfl⟩)
  have T3b : Hid (∀ W, Below w0.heap.size w0 W → W.heap[w.heap.size + 1]? = some (.cells #[.slice none 0 0, .int .i64 0, .int .i64 0, .int .i64 0, .int .i64 0] 60 (0, 0))) := Lib.hid (fun W hW => (hW.block _ (lt_blk b1_)).trans b1_)
  have T3 : Hid (∀ W, Below w0.heap.size w0 W → W.cell? ⟨w.heap.size + 1, 0, none⟩ = some (.slice none 0 0) ∧ W.cell? ⟨w.heap.size + 1, 1, none⟩ = some (.int .i64 0) ∧ W.cell? ⟨w.heap.size + 1, 2, none⟩ = some (.int .i64 0) ∧ W.cell? ⟨w.heap.size + 1, 3, none⟩ = some (.int .i64 0) ∧ W.cell? ⟨w.heap.size + 1, 4, none⟩ = some (.int .i64 0)) := Lib.hid (fun W hW => by have e := (hW.block _ (lt_blk b1_)).trans b1_; exact ⟨by rw [cell_blk e]; rfl, by rw [cell_blk e]; rfl, by rw [cell_blk e]; rfl, by rw [cell_blk e]; rfl, by rw [cell_blk e]; rfl⟩)
  have BA := Lib.hid hb_
  clear hb_ b0_ b1_
  go_wp2_with fail
  refine (N0.out w0 (HS.out.below BA.out)).mono ?_
  rintro e w1 ⟨rfl, hr1, hk1⟩
  have R1 := Lib.hid hr1; have K1 := Lib.hid ((RK.of_below BA.out (Nat.le_of_lt hg)).trans hk1)
  have X2 := Lib.hid (hk1.blk (by decide) (T2b.out w0 (Below.refl _ _))); have X3 := Lib.hid (hk1.blk (by decide) (T3b.out w0 (Below.refl _ _)))
  clear hr1 hk1 N0 T2 T2b T3 T3b BA
  go_wp2_with fail
  clear wn
  go_loopw [4] (fun iv wr => ∃ (k : Nat) (s2 : Rst) (acc : List Ins) (p : Slc), iv = .int .i64 k ∧ k ≤ 65535 ∧ acc.length ≤ 65535 - k ∧ total = rdL rdI k s2 acc ∧ wr.heap[w.heap.size + 1]? = some (.cells #[.slice p.1 acc.length p.2, .int .i64 0, .int .i64 0, .int .i64 0, .int .i64 0] 60 (0, 0)) ∧ wr.heap[w.heap.size]? = some (.cells #[.slice none 0 0, .int .i64 0, .int .i64 0, .int .i64 0, .int .i64 0] 60 (0, 0)) ∧ OwI wr w.heap.size p acc ∧ RdS wr g s2 ∧ RK g w wr) (fun iv _ => (intOf iv).toNat)
  case atStart => exact ⟨n, s1, [], (none, 0), by first | rfl | go_num, by omega, by simp, HC.out.symm, X3.out, X2.out, ⟨rfl, .inl ⟨rfl, rfl⟩⟩, R1.out, K1.out⟩
  case round =>
    obtain ⟨k, s2, acc, p, rfl, hk, hac, ht, hx3, hx2, ho, hr, hkk⟩ := hrel
    have HT := Lib.hid ht; have HO := Lib.hid ho; have HR := Lib.hid hr; have HK := Lib.hid hkk; have X3 := Lib.hid hx3; have X2 := Lib.hid hx2
    have hsz := HK.out.1.1
    clear ht ho hr hkk hx3 hx2
    obtain ⟨A, cp⟩ := p
    dsimp only at *
    by_cases h0 : k = 0
    · subst h0
      have d : decide ((0 : Int) < ((0 : Nat) : Int)) = false := rfl
      have HE : Hid (total = (acc, s2)) := Lib.hid HT.out
      clear HT
      have HV2 : Hid (res = (⟨acc, (rdN 1 s2).1, (rdN 1 (rdN 1 s2).2).1, (rdN 2 (rdN 1 (rdN 1 s2).2).2).1, (rdN 2 (rdN 2 (rdN 1 (rdN 1 s2).2).2).2).1⟩, (rdN 2 (rdN 2 (rdN 1 (rdN 1 s2).2).2).2).2)) := Lib.hid (by rw [HV.out, HE.out])
      clear HV HE HC
      have N1 := Lib.hid (fun W h => HN.out 1 (by omega) (by omega) W s2 h); have b1 := rdN_lt 1 s2
      generalize rdN 1 s2 = q1 at *
      obtain ⟨kd, s3⟩ := q1
      dsimp only at *
      have N2 := Lib.hid (fun W h => HN.out 1 (by omega) (by omega) W s3 h); have b2 := rdN_lt 1 s3
      generalize rdN 1 s3 = q2 at *
      obtain ⟨ag, s4⟩ := q2
      dsimp only at *
      have N3 := Lib.hid (fun W h => HN.out 2 (by omega) (by omega) W s4 h); have b3 := rdN_lt 2 s4
      generalize rdN 2 s4 = q3 at *
      obtain ⟨nx, s5⟩ := q3
      dsimp only at *
      have N4 := Lib.hid (fun W h => HN.out 2 (by omega) (by omega) W s5 h); have b4 := rdN_lt 2 s5
      generalize rdN 2 s5 = q4 at *
      obtain ⟨al, s6⟩ := q4
      dsimp only at *
      have w1_ := wi64 kd (by omega) (by omega); have w2_ := wi64 ag (by omega) (by omega); have w3_ := wi64 nx (by omega) (by omega); have w4_ := wi64 al (by omega) (by omega)
      clear b1 b2 b3 b4
      go_wp2_with fail
      refine (N1.out _ HR.out).mono ?_
      rintro e v1 ⟨rfl, hr1, hk1⟩
      have R1 := Lib.hid hr1; have K1 := Lib.hid (HK.out.trans hk1); have Y2 := Lib.hid (hk1.blk (by decide) X2.out); have Y3 := Lib.hid (hk1.blk (by decide) X3.out); have O1 := Lib.hid (HO.out.rk hk1)
      clear hr1 hk1 N1
      go_wp2_with fail
      refine (N2.out _ R1.out).mono ?_
      rintro e v2 ⟨rfl, hr1, hk1⟩
      have R2 := Lib.hid hr1; have K2 := Lib.hid (K1.out.trans hk1); have Y2 := Lib.hid (hk1.blk (by decide) Y2.out); have Y3 := Lib.hid (hk1.blk (by decide) Y3.out); have O2 := Lib.hid (O1.out.rk hk1)
      clear hr1 hk1 N2
      have u1 : v2.cell? ⟨w.heap.size + 1, 1, none⟩ = some (.int .i64 0) := by rw [cell_blk Y3.out]; rfl
      have u2 : v2.cell? ⟨w.heap.size + 1, 2, none⟩ = some (.int .i64 0) := by rw [cell_blk Y3.out]; rfl
      have fz : ∀ j, v2.frozen? ⟨w.heap.size + 1, j, none⟩ = false := fun j => free_blk Y3.out j
      go_upto_region 10 with (fail)
      clear u1 u2 fz
      obtain ⟨d1, d2, d3⟩ := two_set Y3.out 1 2 (.int .i64 kd) (.int .i64 ag)
      generalize (v2.setCell ⟨w.heap.size + 1, 1, none⟩ (.int .i64 kd)).setCell ⟨w.heap.size + 1, 2, none⟩ (.int .i64 ag) = v3 at *
      have Z3 : Hid (v3.heap[w.heap.size + 1]? = some (.cells #[.slice A acc.length cp, .int .i64 kd, .int .i64 ag, .int .i64 0, .int .i64 0] 60 (0, 0))) := Lib.hid d1
      have Z2 := Lib.hid ((d3.block _ (by omega)).trans Y2.out)
      have O3 := Lib.hid (O2.out.spares (Spares.own_blk d2 Y3.out) (by decide))
      have R3 := Lib.hid (R2.out.keep d3 (by omega)); have K3 := Lib.hid (K2.out.later (Nat.le_of_lt hg) (d3.mono (by omega)))
      clear d1 d2 d3
      go_wp2_with fail
      refine (N3.out _ R3.out).mono ?_
      rintro e v4 ⟨rfl, hr1, hk1⟩
      have R4 := Lib.hid hr1; have K4 := Lib.hid (K3.out.trans hk1); have Y2 := Lib.hid (hk1.blk (by decide) Z2.out); have Y3 := Lib.hid (hk1.blk (by decide) Z3.out); have O4 := Lib.hid (O3.out.rk hk1)
      clear hr1 hk1 N3
      go_wp2_with fail
      refine (N4.out _ R4.out).mono ?_
      rintro e v5 ⟨rfl, hr1, hk1⟩
      have R5 := Lib.hid hr1; have K5 := Lib.hid (K4.out.trans hk1); have Y2 := Lib.hid (hk1.blk (by decide) Y2.out); have Y3 := Lib.hid (hk1.blk (by decide) Y3.out); have O5 := Lib.hid (O4.out.rk hk1)
      clear hr1 hk1 N4
      have u1 : v5.cell? ⟨w.heap.size + 1, 3, none⟩ = some (.int .i64 0) := by rw [cell_blk Y3.out]; rfl
      have u2 : v5.cell? ⟨w.heap.size + 1, 4, none⟩ = some (.int .i64 0) := by rw [cell_blk Y3.out]; rfl
      have fz : ∀ j, v5.frozen? ⟨w.heap.size + 1, j, none⟩ = false := fun j => free_blk Y3.out j
      go_upto_region 11 with (fail)
      clear u1 u2 fz
      obtain ⟨d1, d2, d3⟩ := two_set Y3.out 3 4 (.int .i64 nx) (.int .i64 al)
      generalize (v5.setCell ⟨w.heap.size + 1, 3, none⟩ (.int .i64 nx)).setCell ⟨w.heap.size + 1, 4, none⟩ (.int .i64 al) = v6 at *
      have Z3 : Hid (v6.heap[w.heap.size + 1]? = some (.cells #[.slice A acc.length cp, .int .i64 kd, .int .i64 ag, .int .i64 nx, .int .i64 al] 60 (0, 0))) := Lib.hid d1
      have Z2 := Lib.hid ((d3.block _ (by omega)).trans Y2.out)
      have O6 := Lib.hid (O5.out.spares (Spares.own_blk d2 Y3.out) (by decide))
      have R6 := Lib.hid (R5.out.keep d3 (by omega)); have K6 := Lib.hid (K5.out.later (Nat.le_of_lt hg) (d3.mono (by omega)))
      clear d1 d2 d3
      have m0 : v6.cell? ⟨w.heap.size + 1, 0, none⟩ = some (.slice A acc.length cp) := by rw [cell_blk Z3.out]; rfl
      have m1 : v6.cell? ⟨w.heap.size + 1, 1, none⟩ = some (.int .i64 kd) := by rw [cell_blk Z3.out]; rfl
      have m2 : v6.cell? ⟨w.heap.size + 1, 2, none⟩ = some (.int .i64 ag) := by rw [cell_blk Z3.out]; rfl
      have m3 : v6.cell? ⟨w.heap.size + 1, 3, none⟩ = some (.int .i64 nx) := by rw [cell_blk Z3.out]; rfl
      have m4 : v6.cell? ⟨w.heap.size + 1, 4, none⟩ = some (.int .i64 al) := by rw [cell_blk Z3.out]; rfl
      go_wp2_with (refine wpList_store_row (o := ⟨none, .store 60 (.tmp 2) (.tmp 49), _, _, _, _⟩) rfl _ _ _ rfl w.heap.size #[.slice A acc.length cp, .int .i64 kd, .int .i64 ag, .int .i64 nx, .int .i64 al] rfl rfl _ _ Z2.out (by kernel_rfl) rfl (by kernel_rfl) ?_)
      refine bodyPost_ret (results_cell_row rfl _ _ w.heap.size 60 #[.slice A acc.length cp, .int .i64 kd, .int .i64 ag, .int .i64 nx, .int .i64 al] (0, 0) _ rfl (setRow_heap _ _ _ #[.slice A acc.length cp, .int .i64 kd, .int .i64 ag, .int .i64 nx, .int .i64 al] _ (0, 0) Z2.out) Try.underlying60 rfl (by kernel_rfl)) rfl ?_
      have Bf := below_setRow (Below.refl w.heap.size v6) (Nat.le_refl _) #[.slice A acc.length cp, .int .i64 kd, .int .i64 ag, .int .i64 nx, .int .i64 al]
      exact ⟨(A, cp), by rw [HV2.out]; rfl, by rw [HV2.out]; exact O6.out.spares (spares_row' Z2.out) (by decide), by rw [HV2.out]; exact R6.out.keep Bf hg, K6.out.later (Nat.le_of_lt hg) Bf⟩
    obtain ⟨k', rfl⟩ : ∃ k', k = k' + 1 := ⟨k - 1, by omega⟩
    have d : decide ((0 : Int) < ((k' + 1 : Nat) : Int)) = true := decide_eq_true (by omega)
    obtain ⟨Ar, capr, x1, -⟩ := HR.out
    have c1 : wr.cell? ⟨g, 1, none⟩ = some (.bool s2.2) := by rw [cell_blk x1]; rfl
    clear x1
    have HT1 : Hid (total = if s2.2 = true then (acc, s2) else rdL rdI k' (rdI s2).2 (acc ++ [(rdI s2).1])) := Lib.hid HT.out
    generalize hb : s2.2 = bad at *
    have HB := Lib.hid hb
    clear hb
    cases bad
    rotate_left
    · have HE : Hid (total = (acc, s2)) := Lib.hid (by rw [HT1.out]; rfl)
      clear HT HT1
      have HV2 : Hid (res = (⟨acc, (rdN 1 s2).1, (rdN 1 (rdN 1 s2).2).1, (rdN 2 (rdN 1 (rdN 1 s2).2).2).1, (rdN 2 (rdN 2 (rdN 1 (rdN 1 s2).2).2).2).1⟩, (rdN 2 (rdN 2 (rdN 1 (rdN 1 s2).2).2).2).2)) := Lib.hid (by rw [HV.out, HE.out])
      clear HV HE HC
      have N1 := Lib.hid (fun W h => HN.out 1 (by omega) (by omega) W s2 h); have b1 := rdN_lt 1 s2
      generalize rdN 1 s2 = q1 at *
      obtain ⟨kd, s3⟩ := q1
      dsimp only at *
      have N2 := Lib.hid (fun W h => HN.out 1 (by omega) (by omega) W s3 h); have b2 := rdN_lt 1 s3
      generalize rdN 1 s3 = q2 at *
      obtain ⟨ag, s4⟩ := q2
      dsimp only at *
      have N3 := Lib.hid (fun W h => HN.out 2 (by omega) (by omega) W s4 h); have b3 := rdN_lt 2 s4
      generalize rdN 2 s4 = q3 at *
      obtain ⟨nx, s5⟩ := q3
      dsimp only at *
      have N4 := Lib.hid (fun W h => HN.out 2 (by omega) (by omega) W s5 h); have b4 := rdN_lt 2 s5
      generalize rdN 2 s5 = q4 at *
      obtain ⟨al, s6⟩ := q4
      dsimp only at *
      have w1_ := wi64 kd (by omega) (by omega); have w2_ := wi64 ag (by omega) (by omega); have w3_ := wi64 nx (by omega) (by omega); have w4_ := wi64 al (by omega) (by omega)
      clear b1 b2 b3 b4
      go_wp2_with fail
      refine (N1.out _ HR.out).mono ?_
      rintro e v1 ⟨rfl, hr1, hk1⟩
      have R1 := Lib.hid hr1; have K1 := Lib.hid (HK.out.trans hk1); have Y2 := Lib.hid (hk1.blk (by decide) X2.out); have Y3 := Lib.hid (hk1.blk (by decide) X3.out); have O1 := Lib.hid (HO.out.rk hk1)
      clear hr1 hk1 N1
      go_wp2_with fail
      refine (N2.out _ R1.out).mono ?_
      rintro e v2 ⟨rfl, hr1, hk1⟩
      have R2 := Lib.hid hr1; have K2 := Lib.hid (K1.out.trans hk1); have Y2 := Lib.hid (hk1.blk (by decide) Y2.out); have Y3 := Lib.hid (hk1.blk (by decide) Y3.out); have O2 := Lib.hid (O1.out.rk hk1)
      clear hr1 hk1 N2
      have u1 : v2.cell? ⟨w.heap.size + 1, 1, none⟩ = some (.int .i64 0) := by rw [cell_blk Y3.out]; rfl
      have u2 : v2.cell? ⟨w.heap.size + 1, 2, none⟩ = some (.int .i64 0) := by rw [cell_blk Y3.out]; rfl
      have fz : ∀ j, v2.frozen? ⟨w.heap.size + 1, j, none⟩ = false := fun j => free_blk Y3.out j
      go_upto_region 10 with (fail)
      clear u1 u2 fz
      obtain ⟨d1, d2, d3⟩ := two_set Y3.out 1 2 (.int .i64 kd) (.int .i64 ag)
      generalize (v2.setCell ⟨w.heap.size + 1, 1, none⟩ (.int .i64 kd)).setCell ⟨w.heap.size + 1, 2, none⟩ (.int .i64 ag) = v3 at *
      have Z3 : Hid (v3.heap[w.heap.size + 1]? = some (.cells #[.slice A acc.length cp, .int .i64 kd, .int .i64 ag, .int .i64 0, .int .i64 0] 60 (0, 0))) := Lib.hid d1
      have Z2 := Lib.hid ((d3.block _ (by omega)).trans Y2.out)
      have O3 := Lib.hid (O2.out.spares (Spares.own_blk d2 Y3.out) (by decide))
      have R3 := Lib.hid (R2.out.keep d3 (by omega)); have K3 := Lib.hid (K2.out.later (Nat.le_of_lt hg) (d3.mono (by omega)))
      clear d1 d2 d3
      go_wp2_with fail
      refine (N3.out _ R3.out).mono ?_
      rintro e v4 ⟨rfl, hr1, hk1⟩
      have R4 := Lib.hid hr1; have K4 := Lib.hid (K3.out.trans hk1); have Y2 := Lib.hid (hk1.blk (by decide) Z2.out); have Y3 := Lib.hid (hk1.blk (by decide) Z3.out); have O4 := Lib.hid (O3.out.rk hk1)
      clear hr1 hk1 N3
      go_wp2_with fail
      refine (N4.out _ R4.out).mono ?_
      rintro e v5 ⟨rfl, hr1, hk1⟩
      have R5 := Lib.hid hr1; have K5 := Lib.hid (K4.out.trans hk1); have Y2 := Lib.hid (hk1.blk (by decide) Y2.out); have Y3 := Lib.hid (hk1.blk (by decide) Y3.out); have O5 := Lib.hid (O4.out.rk hk1)
      clear hr1 hk1 N4
      have u1 : v5.cell? ⟨w.heap.size + 1, 3, none⟩ = some (.int .i64 0) := by rw [cell_blk Y3.out]; rfl
      have u2 : v5.cell? ⟨w.heap.size + 1, 4, none⟩ = some (.int .i64 0) := by rw [cell_blk Y3.out]; rfl
      have fz : ∀ j, v5.frozen? ⟨w.heap.size + 1, j, none⟩ = false := fun j => free_blk Y3.out j
      go_upto_region 11 with (fail)
      clear u1 u2 fz
      obtain ⟨d1, d2, d3⟩ := two_set Y3.out 3 4 (.int .i64 nx) (.int .i64 al)
      generalize (v5.setCell ⟨w.heap.size + 1, 3, none⟩ (.int .i64 nx)).setCell ⟨w.heap.size + 1, 4, none⟩ (.int .i64 al) = v6 at *
      have Z3 : Hid (v6.heap[w.heap.size + 1]? = some (.cells #[.slice A acc.length cp, .int .i64 kd, .int .i64 ag, .int .i64 nx, .int .i64 al] 60 (0, 0))) := Lib.hid d1
      have Z2 := Lib.hid ((d3.block _ (by omega)).trans Y2.out)
      have O6 := Lib.hid (O5.out.spares (Spares.own_blk d2 Y3.out) (by decide))
      have R6 := Lib.hid (R5.out.keep d3 (by omega)); have K6 := Lib.hid (K5.out.later (Nat.le_of_lt hg) (d3.mono (by omega)))
      clear d1 d2 d3
      have m0 : v6.cell? ⟨w.heap.size + 1, 0, none⟩ = some (.slice A acc.length cp) := by rw [cell_blk Z3.out]; rfl
      have m1 : v6.cell? ⟨w.heap.size + 1, 1, none⟩ = some (.int .i64 kd) := by rw [cell_blk Z3.out]; rfl
      have m2 : v6.cell? ⟨w.heap.size + 1, 2, none⟩ = some (.int .i64 ag) := by rw [cell_blk Z3.out]; rfl
      have m3 : v6.cell? ⟨w.heap.size + 1, 3, none⟩ = some (.int .i64 nx) := by rw [cell_blk Z3.out]; rfl
      have m4 : v6.cell? ⟨w.heap.size + 1, 4, none⟩ = some (.int .i64 al) := by rw [cell_blk Z3.out]; rfl
      go_wp2_with (refine wpList_store_row (o := ⟨none, .store 60 (.tmp 2) (.tmp 49), _, _, _, _⟩) rfl _ _ _ rfl w.heap.size #[.slice A acc.length cp, .int .i64 kd, .int .i64 ag, .int .i64 nx, .int .i64 al] rfl rfl _ _ Z2.out (by kernel_rfl) rfl (by kernel_rfl) ?_)
      refine bodyPost_ret (results_cell_row rfl _ _ w.heap.size 60 #[.slice A acc.length cp, .int .i64 kd, .int .i64 ag, .int .i64 nx, .int .i64 al] (0, 0) _ rfl (setRow_heap _ _ _ #[.slice A acc.length cp, .int .i64 kd, .int .i64 ag, .int .i64 nx, .int .i64 al] _ (0, 0) Z2.out) Try.underlying60 rfl (by kernel_rfl)) rfl ?_
      have Bf := below_setRow (Below.refl w.heap.size v6) (Nat.le_refl _) #[.slice A acc.length cp, .int .i64 kd, .int .i64 ag, .int .i64 nx, .int .i64 al]
      exact ⟨(A, cp), by rw [HV2.out]; rfl, by rw [HV2.out]; exact O6.out.spares (spares_row' Z2.out) (by decide), by rw [HV2.out]; exact R6.out.keep Bf hg, K6.out.later (Nat.le_of_lt hg) Bf⟩
    have HE0 : Hid (total = rdL rdI k' (rdI s2).2 (acc ++ [(rdI s2).1])) := Lib.hid (by rw [HT1.out]; rfl)
    clear HT HT1 HV HC
    have N1 := Lib.hid (fun W h => HN.out 1 (by omega) (by omega) W s2 h); have b1 := rdN_lt 1 s2
    have J1 := Lib.hid (rdI_lit (s := s2)); have J2 := Lib.hid (rdI_not (s := s2))
    generalize rdI s2 = ri at *
    generalize rdN 1 s2 = q1 at *
    obtain ⟨op, s3⟩ := q1
    dsimp only at *
    have N2 := Lib.hid (fun W h => HN.out 1 (by omega) (by omega) W s3 h); have b2 := rdN_lt 1 s3
    generalize rdN 1 s3 = q2 at *
    obtain ⟨ag, s4⟩ := q2
    dsimp only at *
    have e1 := u8_back op (by omega); have e2 := wi64 ag (by omega) (by omega)
    clear b1 b2
    go_wp2_with fail
    refine (N1.out _ HR.out).mono ?_
    rintro e v1 ⟨rfl, hr1, hk1⟩
    have R1 := Lib.hid hr1; have K1 := Lib.hid (HK.out.trans hk1); have X2 := Lib.hid (hk1.blk (by decide) X2.out); have X3 := Lib.hid (hk1.blk (by decide) X3.out); have O1 := Lib.hid (HO.out.rk hk1)
    clear hr1 hk1 N1 c1 d
    go_wp2_with fail
    refine (N2.out _ R1.out).mono ?_
    rintro e v2 ⟨rfl, hr1, hk1⟩
    have R2 := Lib.hid hr1; have K2 := Lib.hid (K1.out.trans hk1); have X2 := Lib.hid (hk1.blk (by decide) X2.out); have X3 := Lib.hid (hk1.blk (by decide) X3.out); have O2 := Lib.hid (O1.out.rk hk1)
    have hs2 : w.heap.size ≤ v2.heap.size := K2.out.1.1
    have HNEo := Lib.hid (own_ne O2.out (Nat.le_refl _))
    have hg2 : Hid (w.heap.size + 1 < v2.heap.size) := Lib.hid (lt_blk X3.out)
    clear hr1 hk1 N2
    go_upto_region 6 with (fail)
    obtain ⟨b0_, hb_⟩ := boxes1 v2 (.cells #[.int .u8 op, .int .i64 ag, .int .u8 0, .int .u64 0] 53)
    generalize v2.alloc (.cells #[.int .u8 op, .int .i64 ag, .int .u8 0, .int .u64 0] 53) = v3 at *
    have T5b : Hid (∀ W, Below v3.heap.size v3 W → W.heap[v2.heap.size]? = some (.cells #[.int .u8 op, .int .i64 ag, .int .u8 0, .int .u64 0] 53 (0, 0))) := Lib.hid (fun W hW => (hW.block _ (lt_blk b0_)).trans b0_)
    have T5 : Hid (∀ W, Below v3.heap.size v3 W → W.cell? ⟨v2.heap.size, 0, none⟩ = some (.int .u8 op) ∧ W.cell? ⟨v2.heap.size, 1, none⟩ = some (.int .i64 ag) ∧ W.cell? ⟨v2.heap.size, 2, none⟩ = some (.int .u8 0) ∧ W.cell? ⟨v2.heap.size, 3, none⟩ = some (.int .u64 0)) := Lib.hid (fun W hW => by have e := (hW.block _ (lt_blk b0_)).trans b0_; exact ⟨by rw [cell_blk e]; rfl, by rw [cell_blk e]; rfl, by rw [cell_blk e]; rfl, by rw [cell_blk e]; rfl⟩)
    have B5 := Lib.hid hb_
    clear hb_ b0_
    have X5 := Lib.hid (T5b.out v3 (Below.refl _ _))
    have X2 := Lib.hid ((B5.out.block _ (lt_blk X2.out)).trans X2.out); have X3 := Lib.hid ((B5.out.block _ (lt_blk X3.out)).trans X3.out)
    have O3 := Lib.hid (OwI.below O2.out B5.out); have R3 := Lib.hid (R2.out.below B5.out); have K3 := Lib.hid (K2.out.trans (RK.of_below B5.out (Nat.le_trans (Nat.le_of_lt hg) hs2)))
    obtain ⟨y0, -, -, -⟩ := T5.out v3 (Below.refl _ _)
    clear T5 T5b B5 e1 e2
    by_cases g1 : op = 1
    · have q : ((op : Int) == 1) = true := by rw [g1]; rfl
      have HE : Hid (total = rdL rdI k' (rdV s4).2 (acc ++ [⟨op, ag, (rdV s4).1⟩])) := Lib.hid (by rw [HE0.out, J1.out g1])
      clear g1
      have NV := Lib.hid (HVL.out v3 s4 R3.out)
      clear HE0 J1 J2
      generalize rdV s4 = rv at *
      obtain ⟨⟨t, bt⟩, s5⟩ := rv
      dsimp only at *
      go_wp2_with fail
      refine NV.out.mono ?_
      rintro e v4 ⟨rfl, hr1, hk1⟩
      have R4 := Lib.hid hr1; have K4 := Lib.hid (K3.out.trans hk1); have X2 := Lib.hid (hk1.blk (by decide) X2.out); have X3 := Lib.hid (hk1.blk (by decide) X3.out); have X5 := Lib.hid (hk1.blk (by decide) X5.out); have O4 := Lib.hid (O3.out.rk hk1)
      clear hr1 hk1 NV y0
      have u1 : v4.cell? ⟨v2.heap.size, 2, none⟩ = some (.int .u8 0) := by rw [cell_blk X5.out]; rfl
      have u2 : v4.cell? ⟨v2.heap.size, 3, none⟩ = some (.int .u64 0) := by rw [cell_blk X5.out]; rfl
      have fz : ∀ j, v4.frozen? ⟨v2.heap.size, j, none⟩ = false := fun j => free_blk X5.out j
      go_upto_region 8 with (fail)
      clear u1 u2 fz
      have lt2 := lt_blk X2.out; have lt3 := lt_blk X3.out
      have ne2 : w.heap.size ≠ v2.heap.size := by intro e; have := hg2.out; omega
      obtain ⟨d1, d2, d3⟩ := two_set X5.out 2 3 (.int .u8 t) (.int .u64 bt)
      generalize (v4.setCell ⟨v2.heap.size, 2, none⟩ (.int .u8 t)).setCell ⟨v2.heap.size, 3, none⟩ (.int .u64 bt) = wa at *
      have X2 := Lib.hid ((d3.block _ (by have := hg2.out; omega)).trans X2.out); have X3 := Lib.hid ((d3.block _ (by have := hg2.out; omega)).trans X3.out)
      have X5o := X5
      have X5 : Hid (wa.heap[v2.heap.size]? = some (.cells #[.int .u8 op, .int .i64 ag, .int .u8 t, .int .u64 bt] 53 (0, 0))) := Lib.hid d1
      have OI := Lib.hid (O4.out.kept d2 HNEo.out)
      have RR := Lib.hid (R4.out.keep d3 (by have := hg2.out; omega)); have KK := Lib.hid (K4.out.later (Nat.le_of_lt hg) (d3.mono (by have := hg2.out; omega)))
      clear d1 d2 d3 lt2 lt3 ne2 X5o
      have hg2 := hg2.out
      have y0 : wa.cell? ⟨v2.heap.size, 0, none⟩ = some (.int .u8 op) := by rw [cell_blk X5.out]; rfl
      have y1 : wa.cell? ⟨v2.heap.size, 1, none⟩ = some (.int .i64 ag) := by rw [cell_blk X5.out]; rfl
      have y2 : wa.cell? ⟨v2.heap.size, 2, none⟩ = some (.int .u8 t) := by rw [cell_blk X5.out]; rfl
      have y3 : wa.cell? ⟨v2.heap.size, 3, none⟩ = some (.int .u64 bt) := by rw [cell_blk X5.out]; rfl
      have z0 : wa.cell? ⟨w.heap.size + 1, 0, none⟩ = some (.slice A acc.length cp) := by rw [cell_blk X3.out]; rfl
      have hBa : w.heap.size ≤ wa.heap.size := KK.out.1.1
      go_upto_region 4 with (at_builtin; refine wpList_append_oneS ESI [.int .u8 op, .int .i64 ag, .int .u8 t, .int .u64 bt] _ rfl rfl (.tmp 32) (.tmp 34) rfl w.heap.size (by intro u hu; simp at hu; rcases hu with rfl | rfl | rfl | rfl <;> rfl) 1 rfl (.slice A acc.length cp) acc.length (acc.flatMap ic) rfl OI.out rfl (by omega) (by omega) wa hBa (Below.refl _ _) ?_; intro v' w' h2 h3 h4 h5; clear h5; have Sp := Lib.hid (Spares.grown h4 (own_row OI.out)); clear h4; have h6 := own_sv h2; obtain ⟨p', rfl, h6⟩ := h6; unfold sv at h6 ⊢; have O4 := Lib.hid h6; have B4 := Lib.hid h3; have X9 := Lib.hid (Sp.out.2 _ _ _ _ (by decide) X3.out); have X92 := Lib.hid (Sp.out.2 _ _ _ _ (by decide) X2.out); have c9 := cell_blk X9.out 0; have f9 := free_blk X9.out 0; clear h6 h2 h3)
      clear y0 y1 y2 y3 z0
      obtain ⟨d1, d2⟩ := set1 X9.out 0 (.slice p'.1 (acc.length + 1) p'.2)
      have Bd := Lib.hid (B4.out.trans (below_set1 w' (w.heap.size + 1) 0 (.slice p'.1 (acc.length + 1) p'.2) |>.mono (by omega)))
      have SpN := Lib.hid (Spares.own_blk d2 X9.out)
      have D2 := Lib.hid ((d2.block _ (lt_blk X92.out) (by intro e; injection e with e; omega)).trans X92.out)
      have D1 := Lib.hid d1
      clear d1 d2 c9 f9
      generalize w'.setCell ⟨w.heap.size + 1, 0, none⟩ (.slice p'.1 (acc.length + 1) p'.2) = wd at *
      go_wp2_with fail
      go_roundw
      case rel => exact ⟨k', s5, acc ++ [⟨op, ag, ⟨t, bt⟩⟩], p', by go_num, by omega, by rw [List.length_append, List.length_singleton]; omega, HE.out, by rw [D1.out, List.length_append]; rfl, D2.out, by have := Spares.own SpN.out (by decide) O4.out; unfold OwI sv; rw [List.length_append, List.flatMap_append]; exact this, RR.out.keep Bd.out hg, KK.out.later (Nat.le_of_lt hg) Bd.out⟩
      case measure => simp [intOf]
    have q : ((op : Int) == 1) = false := by rw [beq_eq_false_iff_ne]; omega
    obtain ⟨t, ht⟩ : ∃ t : Int, (0 : Int) = t := ⟨_, rfl⟩
    obtain ⟨bt, hbt⟩ : ∃ t : Int, (0 : Int) = t := ⟨_, rfl⟩
    have HE : Hid (total = rdL rdI k' s4 (acc ++ [⟨op, ag, ⟨t, bt⟩⟩])) := Lib.hid (by rw [HE0.out, J2.out g1, ← ht, ← hbt]; rfl)
    have X5 : Hid (v3.heap[v2.heap.size]? = some (.cells #[.int .u8 op, .int .i64 ag, .int .u8 t, .int .u64 bt] 53 (0, 0))) := Lib.hid (by rw [← ht, ← hbt]; exact X5.out)
    clear HE0 J1 J2 g1 ht hbt
    obtain ⟨s5, e5⟩ : ∃ x, x = s4 := ⟨_, rfl⟩; subst e5
    go_upto_region 8 with (fail)
    clear y0
    obtain ⟨wa, e5⟩ : ∃ x, x = v3 := ⟨_, rfl⟩; subst e5
    have OI := O3; have RR := R3; have KK := K3
    have hg2 := hg2.out
    have y0 : wa.cell? ⟨v2.heap.size, 0, none⟩ = some (.int .u8 op) := by rw [cell_blk X5.out]; rfl
    have y1 : wa.cell? ⟨v2.heap.size, 1, none⟩ = some (.int .i64 ag) := by rw [cell_blk X5.out]; rfl
    have y2 : wa.cell? ⟨v2.heap.size, 2, none⟩ = some (.int .u8 t) := by rw [cell_blk X5.out]; rfl
    have y3 : wa.cell? ⟨v2.heap.size, 3, none⟩ = some (.int .u64 bt) := by rw [cell_blk X5.out]; rfl
    have z0 : wa.cell? ⟨w.heap.size + 1, 0, none⟩ = some (.slice A acc.length cp) := by rw [cell_blk X3.out]; rfl
    have hBa : w.heap.size ≤ wa.heap.size := KK.out.1.1
    go_upto_region 4 with (at_builtin; refine wpList_append_oneS ESI [.int .u8 op, .int .i64 ag, .int .u8 t, .int .u64 bt] _ rfl rfl (.tmp 32) (.tmp 34) rfl w.heap.size (by intro u hu; simp at hu; rcases hu with rfl | rfl | rfl | rfl <;> rfl) 1 rfl (.slice A acc.length cp) acc.length (acc.flatMap ic) rfl OI.out rfl (by omega) (by omega) wa hBa (Below.refl _ _) ?_; intro v' w' h2 h3 h4 h5; clear h5; have Sp := Lib.hid (Spares.grown h4 (own_row OI.out)); clear h4; have h6 := own_sv h2; obtain ⟨p', rfl, h6⟩ := h6; unfold sv at h6 ⊢; have O4 := Lib.hid h6; have B4 := Lib.hid h3; have X9 := Lib.hid (Sp.out.2 _ _ _ _ (by decide) X3.out); have X92 := Lib.hid (Sp.out.2 _ _ _ _ (by decide) X2.out); have c9 := cell_blk X9.out 0; have f9 := free_blk X9.out 0; clear h6 h2 h3)
    clear y0 y1 y2 y3 z0
    obtain ⟨d1, d2⟩ := set1 X9.out 0 (.slice p'.1 (acc.length + 1) p'.2)
    have Bd := Lib.hid (B4.out.trans (below_set1 w' (w.heap.size + 1) 0 (.slice p'.1 (acc.length + 1) p'.2) |>.mono (by omega)))
    have SpN := Lib.hid (Spares.own_blk d2 X9.out)
    have D2 := Lib.hid ((d2.block _ (lt_blk X92.out) (by intro e; injection e with e; omega)).trans X92.out)
    have D1 := Lib.hid d1
    clear d1 d2 c9 f9
    generalize w'.setCell ⟨w.heap.size + 1, 0, none⟩ (.slice p'.1 (acc.length + 1) p'.2) = wd at *
    go_wp2_with fail
    go_roundw
    case rel => exact ⟨k', s5, acc ++ [⟨op, ag, ⟨t, bt⟩⟩], p', by go_num, by omega, by rw [List.length_append, List.length_singleton]; omega, HE.out, by rw [D1.out, List.length_append]; rfl, D2.out, by have := Spares.own SpN.out (by decide) O4.out; unfold OwI sv; rw [List.length_append, List.flatMap_append]; exact this, RR.out.keep Bd.out hg, KK.out.later (Nat.le_of_lt hg) Bd.out⟩
    case measure => simp [intOf]
end Go.Proofs.Ytbmpjphemjponaa
