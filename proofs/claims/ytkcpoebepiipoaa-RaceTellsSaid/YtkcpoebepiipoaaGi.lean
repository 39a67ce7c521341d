/- the law's examples. -/
import Derived.Test.YtkcpoebepiipoaaGh
set_option linter.unusedSimpArgs false
set_option linter.unusedVariables false
namespace Go.Proofs.Ytkcpoebepiipoaa
open Go.RowKit

def exA : List Ev := [⟨0, 2, 0⟩, ⟨1, 1, 0⟩]
def exH (t : Int) : List Ev := [⟨t, 3, 0⟩, ⟨t, 2, 0⟩, ⟨t, 4, 0⟩]
def exB : List Ev := exH 0 ++ exH 1
def exC : List Ev := [⟨0, 2, 0⟩, ⟨1, 2, 0⟩, ⟨2, 2, 0⟩]
def exD : List Ev := [⟨0, 1, 0⟩, ⟨1, 1, 0⟩]
def exP : List Ev := [⟨0, 3, 0⟩]
theorem exA_w : wrongE exA (2 : Nat) = 0 := by decide
theorem exA_r : racesL exA (2 : Nat) = [(0, 1)] := by decide
theorem exA_d : dataL exA (2 : Nat) = [(0, 1)] := by decide
set_option maxRecDepth 10000 in
theorem exB_w : wrongE exB (2 : Nat) = 0 := by decide
set_option maxRecDepth 10000 in
theorem exB_r : racesL exB (2 : Nat) = [(2, 3)] := by decide
set_option maxRecDepth 10000 in
theorem exB_d : dataL exB (2 : Nat) = [] := by decide
theorem exC_w : wrongE exC (3 : Nat) = 0 := by decide
theorem exC_r : racesL exC (3 : Nat) = [(0, 1), (1, 2)] := by decide
theorem exC_d : dataL exC (3 : Nat) = [(0, 1), (0, 2), (1, 2)] := by decide
theorem exD_w : wrongE exD (2 : Nat) = 0 := by decide
theorem exD_r : racesL exD (2 : Nat) = [] := by decide
theorem exD_d : dataL exD (2 : Nat) = [] := by decide
theorem exP_w : wrongE (exP ++ [⟨1, 3, 0⟩]) (2 : Nat) = 0 := by decide
theorem exP_p : pendL exP (2 : Nat) ⟨1, 3, 0⟩ = [0] := by decide
theorem wpList_append_srcSw {P : Program} {t e : TypeId} {z : Value} {sz bytes : Nat} (E : ElS P t e z sz bytes) {ops : Array Oper} {rest : List Oper} {o : Oper} {a : Act} {Q : Exit → Act → World → Prop} {w : World} (hwa : Region.wanted o (yielded ops a.tmps) = true) (s x : Operand)
    (ho : o.op = .call { callee := .builtin .append, args := #[s, x], argTypes := #[t, t] }) (base : Nat)
    (v : Value) (n : Nat) (xs : List Value) (hs : a.eval s = v) (hown : w.ownsRow base e sz v n xs) (B : Nat) (A : Option Addr) (news : List Value) (m c : Nat) (hx : a.eval x = .slice A m c) (hm : news.length = m * sz) (hr : Rd w B A news)
    (hA : A = none → m = 0) (h1 : ∀ u ∈ news, u.oneCell' = true) (h63 : n + m ≤ 1000000000000) (hbytes : bytes ≤ 100) (w0 : World) (hB : base ≤ w0.heap.size) (hbel : Below base w0 w)
    (h : ∀ v' w', w'.ownsRow base e sz v' (n + m) (xs ++ news) → Below base w0 w' → w.grownBy w' v.ownBlock → (v'.ownBlock = v.ownBlock ∨ v'.ownBlock = some w.heap.size) → wpList P ops Q rest (a.put o.dst v') w') : wpList P ops Q (o :: rest) a w :=
  wpList_step fun _ hK => by
    rw [if_pos hwa]
    exact wp_append_srcS E w s x ho base v n xs hs hown B A news m c hx hm hr hA h1 h63 hbytes w0 hB hbel fun v' w' h2 h3 h4 h5 => hK _ _ (h v' w' h2 h3 h4 h5)
theorem own_lit {w : World} {B g e sz n : Nat} {cs : Array Value} {xs : List Value} (h : w.heap[g]? = some (.cells cs e (0, 0))) (hB : B ≤ g) (hx : cs = xs.toArray) (hn : xs.length = n * sz) (hm : n ≤ 1000000) : w.ownsRow B e sz (.slice (some ⟨g, 0, none⟩) n n) n xs :=
  ⟨hn, .inr ⟨g, n, cs, rfl, hB, h, Nat.le_refl _, by simp only [maxLen]; omega, by rw [hx]; simpa using hn, by rw [hx]; simp [← hn]⟩⟩
theorem ints_rd {w : World} {B : Nat} {A : Option Addr} {xs : List Nat} (h : Rd w B A (numv xs)) : Ints w B A xs.length (fun t => xs.getD t 0) := fun t ht => h t _ (by
  unfold numv
  rw [List.getElem?_map, List.getElem?_eq_getElem ht]
  simp [List.getD_eq_getElem?_getD, List.getElem?_eq_getElem ht])
theorem nil_rd (w : World) (B : Nat) : Rd w B none [] := fun j u hu => by simp at hu
theorem prs_nil (w : World) (B : Nat) : Rd w B none (prcells []) := nil_rd w B
theorem exH_cells (t : Int) : evcells (exH t) = [.int .i64 t, .int .i64 3, .int .i64 0, .int .i64 t, .int .i64 2, .int .i64 0, .int .i64 t, .int .i64 4, .int .i64 0] := by
  simp [evcells, exH, List.range_succ, ev, evc]
theorem held_any (t : Int) (w : World) : Calls Try.prog 19 #[.int .i64 t] w fun e w' => e = .returned (.slice (some ⟨w.heap.size, 0, none⟩) 3 3) ∧ w' = w.alloc (.cells (evcells (exH t)).toArray 24) := by
  go_enter Try.func19, Try.ntmps19
  go_wp2_with fail
  go_ret
  exact ⟨rfl, by rw [exH_cells]⟩
set_option maxRecDepth 100000 in
set_option maxHeartbeats 4000000 in
theorem awake_any (w : World) : Calls Try.prog 17 #[] w fun e w' => e = .returned (.bool true) ∧ Below w.heap.size w w' := by
  go_enter Try.func17, Try.ntmps17
  go_wp2_with fail
  have hb1 := below_alloc w (.cells (evcells exA).toArray 24)
  have hx1 := heap_alloc_new w (.cells (evcells exA).toArray 24)
  have hw1 : w.alloc (.cells #[.int .i64 0, .int .i64 2, .int .i64 0, .int .i64 1, .int .i64 1, .int .i64 0] 24) = w.alloc (.cells (evcells exA).toArray 24) := rfl
  have hs1 : (w.alloc (.cells (evcells exA).toArray 24)).heap.size = w.heap.size + 1 := by simp
  rw [hw1, ← hs1]
  generalize w.alloc (.cells (evcells exA).toArray 24) = w1 at *
  have hb2 := below_alloc w1 (.cells (prcells [(0, 1)]).toArray 45)
  have hx2 := heap_alloc_new w1 (.cells (prcells [(0, 1)]).toArray 45)
  have hw2 : w1.alloc (.cells #[.int .i64 0, .int .i64 1] 45) = w1.alloc (.cells (prcells [(0, 1)]).toArray 45) := rfl
  have hs2 : (w1.alloc (.cells (prcells [(0, 1)]).toArray 45)).heap.size = w1.heap.size + 1 := by simp
  rw [hw2, ← hs2]
  generalize w1.alloc (.cells (prcells [(0, 1)]).toArray 45) = w2 at *
  have hb3 := below_alloc w2 (.cells (prcells [(0, 1)]).toArray 45)
  have hx3 := heap_alloc_new w2 (.cells (prcells [(0, 1)]).toArray 45)
  have hw3 : w2.alloc (.cells #[.int .i64 0, .int .i64 1] 45) = w2.alloc (.cells (prcells [(0, 1)]).toArray 45) := rfl
  rw [hw3]
  generalize w2.alloc (.cells (prcells [(0, 1)]).toArray 45) = w3 at *
  have y1 := (hb3.block _ (lt_blk ((hb2.block _ (lt_blk hx1)).trans hx1))).trans ((hb2.block _ (lt_blk hx1)).trans hx1)
  have y2 := (hb3.block _ (lt_blk hx2)).trans hx2
  have B3 := Lib.hid (hb1.trans ((hb2.trans (hb3.mono hb2.size)).mono hb1.size))
  have HP := Lib.hid (pairs_law exA 2 rfl (by omega) 2 exA_w [(0, 1)] [(0, 1)] exA_r exA_d 1 1 rfl rfl (by omega) (by omega) (some ⟨w.heap.size, 0, none⟩) (some ⟨w1.heap.size, 0, none⟩) (some ⟨w2.heap.size, 0, none⟩) 2 1 1 w3.heap.size (Nat.le_refl _) w3
    ((Evs.of_rd (lit_rd y1 rfl)).more (by have := lt_blk y1; omega)) (Rd.mono (lit_rd y2 rfl) (by have := lt_blk y2; omega)) (Rd.mono (lit_rd hx3 rfl) (by have := lt_blk hx3; omega)) (Nat.le_refl _))
  clear hb1 hb2 hb3 hx1 hx2 hx3 y1 y2 hw1 hw2 hw3 hs1 hs2
  refine HP.out.mono ?_
  rintro e w4 ⟨rfl, hb⟩
  have B4 := Lib.hid (B3.out.trans (hb.mono B3.out.size))
  clear hb
  go_wp2_with fail
  go_ret
  exact ⟨rfl, B4.out⟩
set_option maxRecDepth 100000 in
set_option maxHeartbeats 4000000 in
theorem known_any (w : World) : Calls Try.prog 4 #[] w fun e w' => e = .returned (.bool true) ∧ Below w.heap.size w w' := by
  go_enter Try.func4, Try.ntmps4
  go_wp2_with fail
  have hb1 := below_alloc w (.cells (evcells exC).toArray 24)
  have hx1 := heap_alloc_new w (.cells (evcells exC).toArray 24)
  have hw1 : w.alloc (.cells #[.int .i64 0, .int .i64 2, .int .i64 0, .int .i64 1, .int .i64 2, .int .i64 0, .int .i64 2, .int .i64 2, .int .i64 0] 24) = w.alloc (.cells (evcells exC).toArray 24) := rfl
  have hs1 : (w.alloc (.cells (evcells exC).toArray 24)).heap.size = w.heap.size + 1 := by simp
  rw [hw1, ← hs1]
  generalize w.alloc (.cells (evcells exC).toArray 24) = w1 at *
  have B1 := Lib.hid hb1; have X1 := Lib.hid hx1
  clear hb1 hx1 hw1
  refine (pending_any exP 1 rfl (by omega) 2 ⟨1, 3, 0⟩ (some ⟨w1.heap.size, 0, none⟩) 1 (w1.heap.size + 1) (w1.alloc (.cells (evcells exP).toArray 24)) (Evs.of_rd (lit_rd (heap_alloc_new _ _) rfl)) (by simp) (fun h => by cases h)).mono ?_
  rw [show wrongE (exP ++ [⟨1, 3, 0⟩]) 2 = 0 from exP_w, show pendL exP 2 ⟨1, 3, 0⟩ = [0] from exP_p]
  rintro r w2 ⟨hb2, v, rfl, ho2⟩
  obtain ⟨Ap, cp, rfl, hrp, _, _⟩ := own_rd ho2
  have HRP := Lib.hid hrp
  have B2 := Lib.hid ((below_alloc w1 (.cells (evcells exP).toArray 24)).trans (hb2.mono (below_alloc _ _).size))
  clear hrp hb2 ho2
  simp only [List.length_cons, List.length_nil] at *
  go_wp2_with fail
  refine (awake_any w2).mono ?_
  rintro r w3 ⟨rfl, hb3⟩
  have B3 := Lib.hid (B2.out.trans (hb3.mono B2.out.size))
  have D3 := Lib.hid hb3
  clear hb3
  go_wp2_with fail
  refine (held_any 0 w3).mono ?_
  rintro r w4 ⟨rfl, hw4⟩
  have b4 : Below w3.heap.size w3 w4 := by rw [hw4]; exact below_alloc _ _
  have x4 : w4.heap[w3.heap.size]? = some (.cells (evcells (exH 0)).toArray 24 (0, 0)) := by rw [hw4]; exact heap_alloc_new _ _
  have B4 := Lib.hid b4; have X4 := Lib.hid x4
  clear hw4 b4 x4
  go_wp2_with fail
  refine (held_any 1 w4).mono ?_
  rintro r w5 ⟨rfl, hw5⟩
  have b5 : Below w4.heap.size w4 w5 := by rw [hw5]; exact below_alloc _ _
  have x5 : w5.heap[w4.heap.size]? = some (.cells (evcells (exH 1)).toArray 24 (0, 0)) := by rw [hw5]; exact heap_alloc_new _ _
  have B5 := Lib.hid (B4.out.trans (b5.mono B4.out.size)); have X5 := Lib.hid x5; have X45 := Lib.hid ((b5.block _ (lt_blk X4.out)).trans X4.out)
  clear hw5 b5 x5
  go_wp2_with (at_builtin; refine wpList_append_srcSw ES3 (by first | rfl | (go_simp; done) | (go_simp; simp)) (.tmp 18) (.tmp 19) rfl w3.heap.size _ 3 (evcells (exH 0)) rfl (own_lit X45.out (Nat.le_refl _) rfl rfl (by omega)) (w4.heap.size + 1) (some ⟨w4.heap.size, 0, none⟩) (evcells (exH 1)) 3 3 rfl rfl (lit_rd X5.out rfl) (fun h => by cases h) (evcells_one _) (by omega) (by omega) w3 (Nat.le_refl _) B5.out ?_; intro v6 w6 h2 h3 h4 h5; clear h4 h5; have O6 := Lib.hid h2; have B6 := Lib.hid h3; clear h2 h3; obtain ⟨A6, c6, rfl, hr6, hn6, hc6⟩ := own_rdS O6.out; have R6 := Lib.hid hr6; have C6 := Lib.hid hc6; clear hr6 hn6 hc6)
  have D6 := Lib.hid (D3.out.trans (B6.out.mono D3.out.size))
  have b7 := below_alloc w6 (.cells (prcells [(2, 3)]).toArray 45)
  refine (pairs_law exB 6 rfl (by omega) 2 exB_w [(2, 3)] [] exB_r exB_d 1 0 rfl rfl (by omega) (by omega) A6 (some ⟨w6.heap.size, 0, none⟩) none c6 1 0 (w6.heap.size + 1) C6.out (w6.alloc (.cells (prcells [(2, 3)]).toArray 45))
    ((Evs.of_rd (l := exB) ((show Rd w6 w6.heap.size A6 (evcells exB) from R6.out).below b7)).more (by omega)) (lit_rd (heap_alloc_new _ _) rfl) (prs_nil _ _) (by simp)).mono ?_
  rintro r w7 ⟨rfl, hb7⟩
  have D7 := Lib.hid (D6.out.trans ((b7.trans (hb7.mono b7.size)).mono D6.out.size))
  clear b7 hb7
  go_wp2_with fail
  have b8 := below_alloc w7 (.cells (prcells [(0, 1), (1, 2)]).toArray 45)
  have x8 := heap_alloc_new w7 (.cells (prcells [(0, 1), (1, 2)]).toArray 45)
  have s8 : (w7.alloc (.cells (prcells [(0, 1), (1, 2)]).toArray 45)).heap.size = w7.heap.size + 1 := by simp
  have hw8 : w7.alloc (.cells #[.int .i64 0, .int .i64 1, .int .i64 1, .int .i64 2] 45) = w7.alloc (.cells (prcells [(0, 1), (1, 2)]).toArray 45) := rfl
  rw [hw8, ← s8]
  generalize w7.alloc (.cells (prcells [(0, 1), (1, 2)]).toArray 45) = w8 at *
  have b9 := below_alloc w8 (.cells (prcells [(0, 1), (0, 2), (1, 2)]).toArray 45)
  have x9 := heap_alloc_new w8 (.cells (prcells [(0, 1), (0, 2), (1, 2)]).toArray 45)
  have hw9 : w8.alloc (.cells #[.int .i64 0, .int .i64 1, .int .i64 0, .int .i64 2, .int .i64 1, .int .i64 2] 45) = w8.alloc (.cells (prcells [(0, 1), (0, 2), (1, 2)]).toArray 45) := rfl
  rw [hw9]
  generalize w8.alloc (.cells (prcells [(0, 1), (0, 2), (1, 2)]).toArray 45) = w9 at *
  have D9 := Lib.hid (D7.out.trans ((b8.trans (b9.mono b8.size)).mono D7.out.size))
  have B9 := Lib.hid (B2.out.trans (D9.out.mono B2.out.size))
  have y1 := (B9.out.block _ (lt_blk X1.out)).trans X1.out
  have y8 := (b9.block _ (lt_blk x8)).trans x8
  have HP := Lib.hid (pairs_law exC 3 rfl (by omega) 3 exC_w [(0, 1), (1, 2)] [(0, 1), (0, 2), (1, 2)] exC_r exC_d 2 3 rfl rfl (by omega) (by omega) (some ⟨w.heap.size, 0, none⟩) (some ⟨w7.heap.size, 0, none⟩) (some ⟨w8.heap.size, 0, none⟩) 3 2 3 w9.heap.size (Nat.le_refl _) w9
    ((Evs.of_rd (lit_rd y1 rfl)).more (by have := lt_blk y1; omega)) (Rd.mono (lit_rd y8 rfl) (by have := lt_blk y8; omega)) (Rd.mono (lit_rd x9 rfl) (by have := lt_blk x9; omega)) (Nat.le_refl _))
  clear b8 b9 x8 x9 hw8 hw9 s8 y1 y8
  refine HP.out.mono ?_
  rintro r w10 ⟨rfl, hb10⟩
  have D10 := Lib.hid (D9.out.trans (hb10.mono D9.out.size))
  clear hb10
  go_wp2_with fail
  have b11 := below_alloc w10 (.cells (evcells exD).toArray 24)
  refine (pairs_law exD 2 rfl (by omega) 2 exD_w [] [] exD_r exD_d 0 0 rfl rfl (by omega) (by omega) (some ⟨w10.heap.size, 0, none⟩) none none 2 0 0 (w10.heap.size + 1) (Nat.le_refl _) (w10.alloc (.cells (evcells exD).toArray 24))
    (Evs.of_rd (lit_rd (heap_alloc_new _ _) rfl)) (prs_nil _ _) (prs_nil _ _) (by simp)).mono ?_
  rintro r w11 ⟨rfl, hb11⟩
  have D11 := Lib.hid (D10.out.trans ((b11.trans (hb11.mono b11.size)).mono D10.out.size))
  clear b11 hb11
  go_wp2_with fail
  have b12 := below_alloc w11 (.cells (numv [0]).toArray 3)
  refine (same_ints 1 (by omega) (fun t => [0].getD t 0) Ap (some ⟨w11.heap.size, 0, none⟩) cp 1 (w11.heap.size + 1) (w11.alloc (.cells (numv [0]).toArray 3)) ?_ (ints_rd (lit_rd (heap_alloc_new _ _) rfl)) (by simp)).mono ?_
  · exact ints_rd (Rd.mono ((HRP.out.below D11.out).below (b12.mono D11.out.size)) (by have := D11.out.size; omega))
  rintro r w12 ⟨rfl, hb12⟩
  have D12 := Lib.hid (D11.out.trans ((b12.trans (hb12.mono b12.size)).mono D11.out.size))
  clear b12 hb12
  go_wp2_with fail
  go_ret
  have hx := B2.out.trans (D12.out.mono B2.out.size)
  exact ⟨rfl, B1.out.trans (hx.mono B1.out.size)⟩
end Go.Proofs.Ytkcpoebepiipoaa
