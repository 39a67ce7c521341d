/- several texts in one: the program's table and the reference's, side by side., assizelaw24.told., what TenantScript's own loops want: tenants compared and wiped., TenantScript. -/
import Derived.Test.YtkdkpnidiehdfaaDoorMg4
import Derived.Test.YtkdkpnidiehdfaaDoorMg2
import Derived.Test.YtkdkpnidiehdfaaDoorZk
import Derived.Test.YtkdkpnidiehdfaaDoorSc
section
set_option linter.unusedSimpArgs false
set_option linter.unusedVariables false
namespace Go.Proofs.YtkdkpnidiehdfaaDoor
open Go.RowKit

theorem own_between {w : World} {b e sz n : Nat} {A : Option Addr} {c : Nat} {xs : List Value} (h : w.ownsRow b e sz (.slice A n c) n xs) : ∀ x, A = some x → b ≤ x.block ∧ x.block < w.heap.size := by
  intro x hx
  subst hx
  rcases h.2 with ⟨h1, _⟩ | ⟨g, cap', cur, e1, hge, hg1, _⟩
  · cases h1
  · injection e1 with e1 _ _
    injection e1 with e1
    subst e1
    exact ⟨hge, lt_blk hg1⟩
set_option maxRecDepth 100000 in
set_option maxHeartbeats 2000000 in
theorem tnew_full (ts : List Tn) (n : Nat) (hn : n = ts.length) (hl : n ≤ 1000000) (ht : Toks ts) (A : Option Addr) (cap : Nat) (hcap : n ≤ cap) (w : World) (hA : Tns w w.heap.size A ts) (hA0 : A = none → n = 0) (hc : chk ts = 0) :
    Calls Tryd.prog 37 #[.slice A n cap] w fun e w' => ∃ p m, e = .returned (.tuple #[.pointer (some ⟨p, 0, none⟩), .int .i64 0]) ∧ TabAt w' p m ⟨ts, []⟩ ∧ w.heap.size ≤ p ∧ w.heap.size ≤ m ∧ Below w.heap.size w w' ∧
      ∃ A2 c2, w'.heap[p]? = some (.cells #[.slice A2 n c2, .map (some m)] 95 (0, 0)) ∧ ∀ x, A2 = some x → w.heap.size ≤ x.block ∧ x.block < w'.heap.size := by
  have HC := Lib.hid (check_any ts n hn (by omega) ht A cap hcap w hA)
  rw [hc] at HC
  have HL : Hid (∀ w', Below w.heap.size w w' → Calls Tryd.prog 63 #[.slice A n cap] w' fun e w2 => ∃ v, e = .returned v ∧ w2.ownsRow w'.heap.size 77 36 v n (tnc ts) ∧ Below w'.heap.size w' w2) :=
    Lib.hid fun w' hb => clone_tens ts n hn hl ht A cap w' (hA.ext hb) hA0
  have HT := Lib.hid ht; have HN := Lib.hid hn
  have HK : Hid (n ≤ 64) := Lib.hid (by
    unfold chk at hc
    split at hc
    · cases hc
    · omega)
  clear hA hA0 ht hn hc
  have hmm := @run_makeMap Tryd.prog
  go_enter Tryd.func37, Tryd.ntmps37
  go_wp2_with fail
  refine HC.out.mono ?_
  rintro e w1 ⟨rfl, hb⟩
  have HB := Lib.hid hb
  clear hb
  go_wp2_with fail
  refine (HL.out w1 HB.out).mono ?_
  rintro e w2 ⟨v, rfl, ho, hb2⟩
  obtain ⟨A2, c2, rfl, hr, hn2, hc2⟩ := own_rdS ho
  have HBT := Lib.hid (own_between ho)
  have HR := Lib.hid hr; have HB2 := Lib.hid hb2
  clear ho hr hb2
  go_wp2_with fail
  go_ret2
  have e1 := heap_alloc_new w2 (.map #[] 0)
  have e2 := heap_alloc_new (w2.alloc (.map #[] 0)) (.cells #[.slice A2 n c2, .map (some w2.heap.size)] 95)
  rw [World.size_alloc] at e2
  have hz := HB.out.size
  have hz2 := HB2.out.size
  have hb3 : Below w2.heap.size w2 ((w2.alloc (.map #[] 0)).alloc (.cells #[.slice A2 n c2, .map (some w2.heap.size)] 95)) := ((Below.refl _ _).alloc (Nat.le_refl _) _).alloc (by simp) _
  refine ⟨_, w2.heap.size, rfl, ⟨⟨A2, c2, ?_, ?_, by rw [← HN.out]; exact hc2⟩, (MapZ.made _ _ w2).below (by exact ((Below.refl _ _).alloc (Nat.le_refl _) _)), ⟨by simp [ZRising], by simp, by rw [← HN.out]; exact HK.out, HT.out, by simp⟩⟩, ?_, by omega, (HB.out.trans (HB2.out.mono hz)).trans (hb3.mono (by omega)), A2, c2, e2, fun x hx => ?_⟩
  · rw [← HN.out]; exact e2
  · exact (Tns.of_rd HR.out HT.out).ext hb3
  · omega
  · have := HBT.out x hx
    have := hb3.size
    omega
set_option maxRecDepth 100000 in
set_option maxHeartbeats 2000000 in
theorem refnew_full (ts : List Tn) (n : Nat) (hn : n = ts.length) (hl : n ≤ 1000000) (ht : Toks ts) (A : Option Addr) (cap : Nat) (hcap : n ≤ cap) (hnm : ∀ x ∈ ts, x.nm.length ≤ 9223372036854775807) (w : World) (hA : Tns w w.heap.size A ts) (hA0 : A = none → n = 0) (hc : chk ts = 0) :
    Calls Tryd.prog 47 #[.slice A n cap] w fun e w' => ∃ p, e = .returned (.tuple #[.pointer (some ⟨p, 0, none⟩), .int .i64 0]) ∧ RefAt w' p ⟨ts, []⟩ ∧ w.heap.size ≤ p ∧ Below w.heap.size w w' ∧
      ∃ A2 c2, w'.heap[p]? = some (.cells #[.slice A2 n c2, .slice none 0 0] 89 (0, 0)) ∧ ∀ x, A2 = some x → w.heap.size ≤ x.block := by
  have HC := Lib.hid (refcheck_any ts n hn (by omega) ht A cap hcap hnm w hA)
  rw [hc] at HC
  have hlen := tnc_length ht
  rw [← hn] at hlen
  have HL := Lib.hid hlen; have HT := Lib.hid ht; have HN := Lib.hid hn; have HAA := Lib.hid hA; have HA0 := Lib.hid hA0
  have HK : Hid (n ≤ 64) := Lib.hid (by
    unfold chk at hc
    split at hc
    · cases hc
    · omega)
  clear hA hA0 ht hn hc hlen hnm
  go_enter Tryd.func47, Tryd.ntmps47
  go_wp2_with fail
  refine HC.out.mono ?_
  rintro e w1 ⟨rfl, hb⟩
  have HB := Lib.hid hb
  have HRD := Lib.hid ((HAA.out.ext hb).rd HT.out)
  clear hb
  go_wp2_with (at_builtin; refine wpList_append_srcS ES36 rfl (.tmp 10) (.tmp 11) rfl w1.heap.size _ 0 [] rfl (owns0S w1 _ _ _ (Nat.le_refl _)) w1.heap.size A (tnc ts) n cap rfl HL.out (HRD.out.keep fun b o hb => World.cell?_alloc_lt _ _ _ hb) HA0.out (tnc_one ts) (by omega) (by omega) w1 (Nat.le_refl _) (below_alloc _ _) ?_; intro v' w2 h2 h3 h4 h5; clear h4 h5; have H2 := Lib.hid h2; have H3 := Lib.hid h3; clear h2 h3; obtain ⟨A2, c2, rfl, hr2, _, hle2⟩ := own_rdS H2.out; rw [Nat.zero_add] at hle2; have HR2 := Lib.hid hr2; clear hr2)
  go_ret2
  have hz := HB.out.size
  have hz2 := H3.out.size
  have hb3 := below_alloc w2 (.cells #[.slice A2 (0 + n) c2, .slice none 0 0] 89)
  have e1 := heap_alloc_new w2 (.cells #[.slice A2 (0 + n) c2, .slice none 0 0] 89)
  rw [Nat.zero_add] at hb3 e1
  have hts : Tns w2 w2.heap.size A2 ts := Tns.of_rd (by have := HR2.out; rwa [List.nil_append] at this) HT.out
  refine ⟨w2.heap.size, rfl, ⟨⟨A2, c2, none, 0, by rw [← HN.out]; simpa using e1, (hts.below hb3), by rw [← HN.out]; exact hle2, (fun i hi => absurd hi (by simp)), Nat.le_refl _⟩, ⟨by simp [ZRising], by simp, by rw [← HN.out]; exact HK.out, HT.out, by simp⟩⟩, by omega, (HB.out.trans (H3.out.mono hz)).trans (by simpa using hb3.mono (by omega)), A2, c2, by simpa using e1, fun x hx => ?_⟩
  have := (own_between (by have := H2.out; exact this) x hx).1
  omega
/-- cells in another block stay. -/
theorem grown_cell {w w' : World} {g : Nat} (hg : w.grownBy w' (some g)) {b o : Nat} {v : Value} (hb : b ≠ g) (hc : w.cell? ⟨b, o, none⟩ = some v) : w'.cell? ⟨b, o, none⟩ = some v :=
  (World.cell?_of_block (hg.block b (World.block_lt_of_cell? _ _ hc) (by simpa using hb))).trans hc
/-- a program's table under a write to a block that is none of its own. -/
theorem TabAt.apart {w w' : World} {p m g : Nat} {t : Tb} (h : TabAt w p m t) (hg : w.grownBy w' (some g)) (hp : p ≠ g) (hm : m ≠ g) {A : Option Addr} {n cap : Nat} (ho : w.heap[p]? = some (.cells #[.slice A n cap, .map (some m)] 95 (0, 0))) (hA : ∀ x, A = some x → x.block ≠ g) : TabAt w' p m t := by
  obtain ⟨A', cap', h1, h2, h3⟩ := h.own
  rw [h1] at ho
  injection ho with ho; injection ho with ho _ _
  injection ho with ho; injection ho with ho _
  injection ho with e1 e2 e3
  subst e1
  refine ⟨⟨A', cap', (hg.block p (lt_blk h1) (by simpa using hp)).trans h1, ?_, h3⟩, h.map.at (hg.block m h.ltm (by simpa using hm)), h.ok⟩
  intro i hi
  obtain ⟨b, off, e, hb, hc⟩ := h2 i hi
  exact ⟨b, off, e, Nat.lt_of_lt_of_le hb hg.size, fun j v hv => grown_cell hg (hA _ e) (hc j v hv)⟩
/-- the reference's, of no connections, likewise. -/
theorem RefAt.apart {w w' : World} {q g : Nat} {ts : List Tn} (h : RefAt w q ⟨ts, []⟩) (hg : w.grownBy w' (some g)) (hq : q ≠ g) {A : Option Addr} {n cap : Nat} {v : Value} (ho : w.heap[q]? = some (.cells #[.slice A n cap, v] 89 (0, 0))) (hA : ∀ x, A = some x → x.block ≠ g) : RefAt w' q ⟨ts, []⟩ := by
  obtain ⟨A', cap', Ab, cb, h1, h2, h3, h4, h5⟩ := h.own
  rw [h1] at ho
  injection ho with ho; injection ho with ho _ _
  injection ho with ho; injection ho with ho _
  injection ho with e1 e2 e3
  subst e1
  refine ⟨⟨A', cap', Ab, cb, (hg.block q (lt_blk h1) (by simpa using hq)).trans h1, ?_, h3, fun i hi => absurd hi (by simp), h5⟩, h.ok⟩
  intro i hi
  obtain ⟨b, off, e, hb, hc⟩ := h2 i hi
  exact ⟨b, off, e, hb, fun j v hv => grown_cell hg (hA _ e) (hc j v hv)⟩
/-- the reference's under a write to a map. -/
theorem RefAt.kept {w w' : World} {q m : Nat} {u : Tb} {bs : Zl} (h : RefAt w q u) (hm : MapZ Tryd.prog 3 w m bs) (hg : w.grownBy w' (some m)) : RefAt w' q u := by
  obtain ⟨A', cap', Ab, cb, h1, h2, h3, h4, h5⟩ := h.own
  have hq : q ≠ m := by
    rintro rfl
    obtain ⟨es, c, e1, _⟩ := hm
    rw [h1] at e1
    cases e1
  refine ⟨⟨A', cap', Ab, cb, (hg.block q (lt_blk h1) (by simpa using hq)).trans h1, h2.keep fun b o v _ hv => grown_cell hg (hm.no_cell hv) hv, h3, fun i hi => ?_, h5⟩, h.ok⟩
  obtain ⟨b, off, e, hb, c1, c2⟩ := h4 i hi
  exact ⟨b, off, e, Nat.lt_of_lt_of_le hb hg.size, grown_cell hg (hm.no_cell c1) c1, grown_cell hg (hm.no_cell c2) c2⟩
/-- both. -/
structure Duo (w0 w : World) (p m : Nat) (t : Tb) (q : Nat) (u : Tb) : Prop where
  one : Ses w0 w p m t
  ref : RefAt w q u
  hq : w0.heap.size ≤ q
  lim : ∃ A n cap, w.heap[p]? = some (.cells #[.slice A n cap, .map (some m)] 95 (0, 0)) ∧ p < q ∧ m < q ∧ ∀ x, A = some x → x.block < q
section
variable {w0 w w' : World} {p m q : Nat} {t u : Tb}
theorem Duo.ext (h : Duo w0 w p m t q u) (hb : Below w.heap.size w w') : Duo w0 w' p m t q u := by
  obtain ⟨A, n, cap, h1, h2⟩ := h.lim
  exact ⟨h.one.ext hb, h.ref.below hb, h.hq, A, n, cap, (hb.block _ (lt_blk h1)).trans h1, h2⟩
theorem Duo.turn {t' : Tb} (h : Duo w0 w p m t q u) (ht : TabAt w' p m t') (hg : w.grownBy w' (some m)) : Duo w0 w' p m t' q u := by
  obtain ⟨A, n, cap, h1, h2⟩ := h.lim
  have hne : p ≠ m := by
    rintro rfl
    obtain ⟨es, c, e1, _⟩ := h.one.tab.map
    rw [h1] at e1
    cases e1
  exact ⟨h.one.turn ht hg, h.ref.kept h.one.tab.map hg, h.hq, A, n, cap, (hg.block p (lt_blk h1) (by simpa using hne)).trans h1, h2⟩
theorem Duo.turn2 {u' : Tb} (h : Duo w0 w p m t q u) (hu : RefAt w' q u') (hg : w.grownBy w' (some q)) : Duo w0 w' p m t q u' := by
  obtain ⟨A, n, cap, h1, hp, hm, hA⟩ := h.lim
  have ht : TabAt w' p m t := h.one.tab.apart hg (by omega) (by omega) h1 (fun x hx => by have := hA x hx; omega)
  have hk : KMem w' := fun i hi => by
    have hc := h.one.kmem i hi
    have h0 := h.one.kmem 0 (by decide)
    refine grown_cell hg ?_ hc
    intro e
    obtain ⟨A', cap', Ab, cb, e1, _⟩ := h.ref.own
    subst e
    rw [cell_blk e1] at h0
    have h1 : (some (Value.slice A' u.ts.length cap') : Option Value) = some (.int .u32 (kTab.getD 0 0).toNat) := h0
    cases h1
  exact ⟨⟨ht, hk, h.one.below.grown hg h.one.below.size (fun k e => by cases e; exact h.hq), h.one.hm⟩, hu, h.hq, A, n, cap, (hg.block p (lt_blk h1) (by simp; omega)).trans h1, hp, hm, hA⟩
/-- both under way, of one law. -/
abbrev Duo1 (w0 w : World) (p m q : Nat) (t : Tb) : Prop := Duo w0 w p m t q t
end
end Go.Proofs.YtkdkpnidiehdfaaDoor
end

section
set_option linter.unusedSimpArgs false
set_option linter.unusedVariables false
namespace Go.Proofs.YtkdkpnidiehdfaaDoor
open Go.RowKit

/-- the cells of a row of numbers that a call has made, whatever is in them. -/
def RowW (B L : Nat) (A : Option Addr) (w : World) : Prop := L = 0 ∨ ∃ g cur, A = some ⟨g, 0, none⟩ ∧ B ≤ g ∧ w.heap[g]? = some (.cells cur 3 (0, 0)) ∧ L ≤ cur.size
theorem RowW.of {B L : Nat} {A : Option Addr} {c : Nat} {w : World} {xs : List Value} (h : w.ownsRow B 3 1 (.slice A L c) L xs) : RowW B L A w := by
  rcases h.2 with ⟨_, h0⟩ | ⟨g, cap, cur, e, hge, hg, hn, _, hs, _⟩
  · exact .inl h0
  · injection e with e _ _
    exact .inr ⟨g, cur, e, hge, hg, by omega⟩
set_option maxRecDepth 100000 in
set_option maxHeartbeats 8000000 in
theorem told_at {w0 w : World} {p m q : Nat} {t : Tb} (h : Duo w0 w p m t q t) {x : Int} (hx : inI x) (who : Int) :
    Calls Tryd.prog 51 #[.pointer (some ⟨p, 0, none⟩), .pointer (some ⟨q, 0, none⟩), .int .i64 x, .int .i64 who] w fun e w' => e = .returned (.bool true) ∧ Below w.heap.size w w' := by
  have hfew : (connsOf t.bs who).length ≤ 1000000 := Nat.le_trans (connsOf_length _ _) h.one.tab.ok.few
  have hts : t.ts.length ≤ 64 := h.one.tab.ok.ts
  have HW1 := Lib.hid (twho_at h.one.tab hx)
  have HW2 : Hid (∀ w1, Below w.heap.size w w1 → Calls Tryd.prog 70 #[.pointer (some ⟨q, 0, none⟩), .int .i64 x] w1 fun e w' => e = .returned (.tuple #[.int .i64 (t.who x).1, .bool (t.who x).2]) ∧ Below w1.heap.size w1 w') := Lib.hid fun w1 hb => refwho_at (h.ref.below hb) x
  have HC1 : Hid (∀ w1, Below w.heap.size w w1 → Calls Tryd.prog 41 #[.pointer (some ⟨p, 0, none⟩), .int .i64 who] w1 fun e w' => ∃ v, e = .returned v ∧ w'.ownsRow w1.heap.size 3 1 v (connsOf t.bs who).length ((connsOf t.bs who).map encZ) ∧ Below w1.heap.size w1 w') := Lib.hid fun w1 hb => conns_at (h.one.tab.below hb) who
  have HC2 : Hid (∀ w1, Below w.heap.size w w1 → Calls Tryd.prog 71 #[.pointer (some ⟨q, 0, none⟩), .int .i64 who] w1 fun e w' => ∃ v, e = .returned v ∧ w'.ownsRow w1.heap.size 3 1 v (connsOf t.bs who).length ((connsOf t.bs who).map encZ) ∧ Below w1.heap.size w1 w') := Lib.hid fun w1 hb => refconns_at (h.ref.below hb) who
  have HLN : Hid (∀ w1, Below w.heap.size w w1 → Calls Tryd.prog 52 #[.pointer (some ⟨p, 0, none⟩)] w1 fun e w' => e = .returned (.int .i64 t.ts.length) ∧ Below w1.heap.size w1 w') := Lib.hid fun w1 hb => tlen_at (h.one.tab.below hb)
  obtain ⟨Aq, cq, Ab, cb, e1, _, hcq, _, _⟩ := h.ref.own
  have HQ : Hid (∀ W, Below w.heap.size w W → W.cell? ⟨q, 0, none⟩ = some (.slice Aq t.ts.length cq)) := Lib.hid fun W hW => by rw [cell_blk ((hW.block _ (lt_blk e1)).trans e1)]; rfl
  have HSI : Hid (∀ (W : World) (A A' : Option Addr) (k k' : Nat), Rd W W.heap.size A ((connsOf t.bs who).map encZ) → Rd W W.heap.size A' ((connsOf t.bs who).map encZ) → Calls Tryd.prog 40 #[.slice A (connsOf t.bs who).length k, .slice A' (connsOf t.bs who).length k'] W fun e w' => e = .returned (.bool true) ∧ Below W.heap.size W w') := Lib.hid fun W A A' k k' h1 h2 => by
    have := ints_same (connsOf t.bs who) (connsOf t.bs who) _ _ rfl rfl (by omega) (by omega) A A' k k' W h1 h2
    rw [decide_eq_true rfl] at this
    exact this
  clear h hx e1
  generalize t.who x = r at *
  obtain ⟨a, b⟩ := r
  generalize hcs : connsOf t.bs who = cs at *
  have HCS := Lib.hid hcs
  clear hcs
  obtain ⟨L, hL⟩ : ∃ L, L = cs.length := ⟨_, rfl⟩
  rw [← hL] at HC1 HC2 HSI hfew
  have HL := Lib.hid hL
  clear hL
  generalize t.ts.length = n at *
  have ga : (a == a) = true := by simp
  have gb : (b == b) = true := by simp
  have gn : ((n : Int) == (n : Int)) = true := by simp
  simp only at HW1 HW2
  go_enter Tryd.func51, Tryd.ntmps51
  go_wp2_with fail
  refine HW1.out.mono ?_
  rintro e w1 ⟨rfl, hb⟩
  have HB1 := Lib.hid hb
  clear hb
  go_wp2_with fail
  refine (HW2.out w1 HB1.out).mono ?_
  rintro e w2 ⟨rfl, hb⟩
  have HB2 := Lib.hid (HB1.out.trans (hb.mono HB1.out.size))
  clear hb
  go_wp2_with fail
  refine (HC1.out w2 HB2.out).mono ?_
  rintro e w3 ⟨v, rfl, hrow, hb⟩
  obtain ⟨A3, c3, rfl, hr3, _, hle3⟩ := own_rdS hrow
  have HR3 := Lib.hid hr3; have HRW := Lib.hid (RowW.of hrow); have HB23 := Lib.hid hb
  have HB3 := Lib.hid (HB2.out.trans (hb.mono HB2.out.size))
  clear hb hr3 hrow
  have HRD : Hid (∀ W, Below w3.heap.size w3 W → Rd W W.heap.size A3 (cs.map encZ)) := Lib.hid fun W hW => (HR3.out.keep fun b o hbl => hW.cell (p := ⟨b, o, none⟩) hbl).more hW.size
  go_upto_region 4 with fail
  apply wp_region_relS 26 [(Sum.inl _ : TT), (Sum.inl _ : TT), (Sum.inl _ : TT), (Sum.inl _ : TT), (Sum.inl _ : TT), (Sum.inl _ : TT), (Sum.inl _ : TT), (Sum.inl _ : TT), (Sum.inl _ : TT), (Sum.inl _ : TT), (Sum.inl _ : TT), (Sum.inl _ : TT), .inr (OwnR w3.heap.size 3 L (cs.map encZ)), (Sum.inl _ : TT), (Sum.inl _ : TT), (Sum.inl _ : TT), (Sum.inl _ : TT), (Sum.inl _ : TT), (Sum.inl _ : TT), (Sum.inl _ : TT), (Sum.inl _ : TT), (Sum.inl _ : TT), (Sum.inl _ : TT), (Sum.inl _ : TT), (Sum.inl _ : TT), (Sum.inl _ : TT)] (by kernel_rfl) (by kernel_rfl) rfl
  simp only [List.take_succ_cons, List.take_zero, List.drop_succ_cons, List.drop_zero]
  iterate 12 (apply rel_isS; (intro W hW hf; go_simp; first | exact ⟨StayS.refl _ _, rfl⟩ | rfl); simp only [Act.put, List.setIfInBounds_toArray, List.set_cons_succ, List.set_cons_zero])
  refine rel_fitsS (fun W hW hf => rel_callS hW rfl (by go_simp <;> first | rfl | exact ⟨rfl, rfl⟩ | exact ⟨rfl, rfl, rfl⟩) ((HC2.out W (HB3.out.trans (hW.mono HB3.out.size))).mono fun e W' ⟨v, h1, h2, h3⟩ => ⟨v, h1, h3, own_less h2 hW.size⟩)) (OwnR.keepsS _ _ _ _) fun v1 => ?_
  simp only [Act.put, List.setIfInBounds_toArray, List.set_cons_succ, List.set_cons_zero]
  apply rel_isS
  · intro W hW hf
    have h0 := hf (43, OwnR w3.heap.size 3 L (cs.map encZ) v1) (by simp) (by simp [Oper.looksAt, Op.operands, Call.operands])
    obtain ⟨A4, c4, rfl, hr4, _, _⟩ := own_rdS h0
    exact rel_callS hW rfl (by go_simp <;> first | rfl | exact ⟨rfl, rfl⟩ | exact ⟨rfl, rfl, rfl⟩) ((HSI.out W A3 A4 c3 c4 (HRD.out W hW) hr4).mono fun e W' ⟨h1, h2⟩ => ⟨_, h1, h2, rfl⟩)
  simp only [Act.put, List.setIfInBounds_toArray, List.set_cons_succ, List.set_cons_zero]
  iterate 3 (apply rel_isS; (intro W hW hf; go_simp; first | exact ⟨StayS.refl _ _, rfl⟩ | rfl); simp only [Act.put, List.setIfInBounds_toArray, List.set_cons_succ, List.set_cons_zero])
  apply rel_isS
  · intro W hW hf
    exact rel_callS hW rfl (by go_simp <;> first | rfl | exact ⟨rfl, rfl⟩ | exact ⟨rfl, rfl, rfl⟩) ((HLN.out W (HB3.out.trans (hW.mono HB3.out.size))).mono fun e W' ⟨h1, h2⟩ => ⟨_, h1, h2, rfl⟩)
  simp only [Act.put, List.setIfInBounds_toArray, List.set_cons_succ, List.set_cons_zero]
  iterate 8 (apply rel_isS; (intro W hW hf; have hq1 := HQ.out W (HB3.out.trans (hW.mono HB3.out.size)); go_simp; first | exact ⟨StayS.refl _ _, rfl⟩ | rfl); simp only [Act.put, List.setIfInBounds_toArray, List.set_cons_succ, List.set_cons_zero])
  refine rel_endS ?_
  intro W hW hf
  try simp only [Act.put, List.setIfInBounds_toArray, List.set_cons_succ, List.set_cons_zero]
  have HW := Lib.hid hW
  have HBW := Lib.hid (HB23.out.trans (hW.mono HB23.out.size))
  have HRWW : Hid (RowW w2.heap.size L A3 W) := Lib.hid (by
    rcases HRW.out with h | ⟨g, cur, h1, h2, h3, h4⟩
    · exact .inl h
    · exact .inr ⟨g, cur, h1, h2, (hW.block _ (lt_blk h3)).trans h3, h4⟩)
  clear hW hf
  go_wp2_with fail
  go_loopw [15] (fun iv wr => ∃ k : Nat, k ≤ L ∧ iv = .int .i64 k ∧ Below w2.heap.size w2 wr ∧ RowW w2.heap.size L A3 wr) (fun iv _ => L - (RowKit.intOf iv).toNat)
  case atStart => exact ⟨0, by omega, rfl, HBW.out, HRWW.out⟩
  case round =>
    obtain ⟨k, hk, rfl, hb, hrow⟩ := hrel
    have HB := Lib.hid hb; have HR := Lib.hid hrow
    clear hb hrow
    by_cases hlt : k < L
    · rcases HR.out with h | ⟨g, cur, hA, hge, hg, hsz⟩
      · omega
      subst hA
      have c1 : wr.cell? ⟨g, k, none⟩ = some cur[k] := by rw [cell_blk hg]; simp
      have z1 := free_blk hg k
      have HS : Hid (RowW w2.heap.size L (some ⟨g, 0, none⟩) (wr.setCell ⟨g, k, none⟩ (.int .i64 (-9)))) := Lib.hid (.inr ⟨g, _, rfl, hge, set_blk hg k _, by simpa using hsz⟩)
      have HB2' : Hid (Below w2.heap.size w2 (wr.setCell ⟨g, k, none⟩ (.int .i64 (-9)))) := Lib.hid (HB.out.setCell hge _)
      clear hg
      go_wp2_with fail
      go_roundw
      case rel => exact ⟨k + 1, by omega, by go_num, by first | exact HB2'.out | simpa using HB2'.out, by first | exact HS.out | simpa using HS.out⟩
      case measure => simp [RowKit.intOf]; omega
    · obtain rfl : k = L := by omega
      have HB5 := Lib.hid (HB2.out.trans (HB.out.mono HB2.out.size))
      go_wp2_with fail
      refine (HC1.out wr HB5.out).mono ?_
      rintro e w6 ⟨v6, rfl, hrow, hb⟩
      obtain ⟨A6, c6, rfl, hr6, _, _⟩ := own_rdS hrow
      have HR6 := Lib.hid hr6; have HB6 := Lib.hid (HB5.out.trans (hb.mono HB5.out.size))
      clear hb hr6 hrow
      go_wp2_with fail
      refine (HC2.out w6 HB6.out).mono ?_
      rintro e w7 ⟨v7, rfl, hrow, hb⟩
      obtain ⟨A7, c7, rfl, hr7, _, _⟩ := own_rdS hrow
      have HR7 := Lib.hid hr7; have HB7 := Lib.hid (HB6.out.trans (hb.mono HB6.out.size))
      have HR67 := Lib.hid ((HR6.out.keep fun b o hbl => hb.cell (p := ⟨b, o, none⟩) hbl).more hb.size)
      clear hb hr7 hrow
      go_wp2_with fail
      refine (HSI.out w7 A6 A7 c6 c7 HR67.out HR7.out).mono ?_
      rintro e w8 ⟨rfl, hb⟩
      have HB8 := Lib.hid (HB7.out.trans (hb.mono HB7.out.size))
      clear hb
      go_wp2_with fail
      go_ret
      exact ⟨rfl, HB8.out⟩
end Go.Proofs.YtkdkpnidiehdfaaDoor
end

section
set_option linter.unusedSimpArgs false
set_option linter.unusedVariables false
namespace Go.Proofs.YtkdkpnidiehdfaaDoor
open Go.RowKit

theorem run_part_cell {P : Program} {t : TypeId} {d : TypeDesc} (hu : P.underlying t = some d) (hd : d.isRow = false) {cs : Array Value} {o : Nat} {v : Value} (hv : cs[o]? = some v) (w : World) : (part t cs o).run P w = .ok v w := by
  unfold part isAgg
  rw [Sem.run_bind, Sem.run_bind, run_underlying hu w]
  cases d <;> simp_all [TypeDesc.isRow]
theorem run_part_row {P : Program} {t : TypeId} {d : TypeDesc} (hu : P.underlying t = some d) (hd : d.isRow = true) {n : Nat} (hn : (P.info? t).map (·.size) = some n) {cs : Array Value} {o : Nat} (w : World) : (part t cs o).run P w = .ok (.agg (cs.extract o (o + n))) w := by
  unfold part isAgg
  rw [Sem.run_bind, Sem.run_bind, run_underlying hu w]
  cases hq : P.info? t with
  | none => simp [hq] at hn
  | some i =>
    have : i.size = n := by simpa [hq] using hn
    cases d <;> simp_all [TypeDesc.isRow, sizeOf, typeInfo, Sem.run_bind]
theorem equal_dig_in (a : List UInt8) (h : a.length = 32) (w : World) : (Op.equalIn 9999 25 (.agg (bcells a).toArray) (.agg (bcells a).toArray)).run Tryd.prog w = .ok true w := by
  have hs : (Tryd.prog.info? 5).map (·.size) = some 1 := by kernel_rfl
  cases hq : Tryd.prog.info? 5 with
  | none => simp [hq] at hs
  | some i =>
    have hc : Tryd.prog.cellsOf 5 = 1 := by simpa [Program.cellsOf, hq] using hs
    rw [run_equalIn_array w 9998 _ _ Tryd.underlying25 hq, hc, run_eqItems_bytes Tryd.underlying5 9997 a a w _ (fun i hi => by simp at hi; omega)]
    simp
set_option maxRecDepth 100000 in
theorem equal_tn (u : Tn) (h : u.tok.length = 32) (w : World) : (Op.equalIn 10000 77 (tnv u) (tnv u)).run Tryd.prog w = .ok true w := by
  have hu := Tryd.underlying77
  unfold tnv
  rw [run_equalIn_struct w 9999 _ _ _ (by unfold Program.fieldsOf; rw [hu]) (by kernel_rfl)]
  unfold Program.fieldsOf
  rw [hu]
  have p0 := fun w => run_part_cell (P := Tryd.prog) Tryd.underlying9 rfl (cs := (tnl u).toArray) (o := 0) (v := .string (str u.nm)) (by simpa using tnl_name u) w
  have p1 := fun w => run_part_row (P := Tryd.prog) Tryd.underlying25 rfl (n := 32) (by kernel_rfl) (cs := (tnl u).toArray) (o := 1) w
  have hd : (tnl u).toArray.extract 1 33 = (bcells u.tok).toArray := by
    apply Array.ext'
    simp only [Array.toList_extract, List.extract_eq_take_drop, tnl, List.drop_succ_cons, List.drop_zero]
    rw [List.take_left' (by simp [bcells, h])]
  have p2 := fun w => run_part_cell (P := Tryd.prog) Tryd.underlying3 rfl (cs := (tnl u).toArray) (o := 33) (v := .int .i64 u.res) (by simpa using tnl_res h) w
  have p3 := fun w => run_part_cell (P := Tryd.prog) Tryd.underlying3 rfl (cs := (tnl u).toArray) (o := 34) (v := .int .i64 u.jobs) (by simpa using tnl_jobs h) w
  have p4 := fun w => run_part_cell (P := Tryd.prog) Tryd.underlying3 rfl (cs := (tnl u).toArray) (o := 35) (v := .int .i64 u.conns) (by simpa using tnl_conns h) w
  simp only [show 1 + 32 = 33 from rfl, hd] at p1
  have he := equal_dig_in u.tok h
  have hs := fun w => run_equalIn_string (P := Tryd.prog) w 9998 9 (str u.nm) (str u.nm) Tryd.underlying9
  have hi := fun (w : World) (x : Int) => run_equalIn_int (P := Tryd.prog) w 9998 3 .i64 .i64 x x Tryd.underlying3
  generalize (tnl u).toArray = cs at *
  simp [Op.eqFields, p0, p1, p2, p3, p4, he, hs, hi, Sem.run_bind]
theorem neq_tn (u : Tn) (h : u.tok.length = 32) (w : World) : (binOp .neq 77 (tnv u) (tnv u)).run Tryd.prog w = .ok (.bool false) w := by
  have := equal_tn u h w
  unfold tnv at this ⊢
  rw [run_neq_struct, this]
  rfl
theorem eqg_tn (op : BinOp) (x y : Operand) (u : Tn) (w : World) : (eqGuard op 77 x y (tnv u) (tnv u)).run Tryd.prog w = .ok () w :=
  run_eqGuard_agg w op 77 x y _ _ (by kernel_rfl)
theorem rel_load_tn {B : Nat} {ops : Array Oper} {op : Oper} {a : Act} {w : World} (hw : Region.wanted op (yielded ops a.tmps) = true) (x : Operand) (ho : op.op = .load 77 x) (b o : Nat) (hx : a.eval x = .pointer (some ⟨b, o, none⟩)) (u : Tn) (hu : u.tok.length = 32) (hc : TnAt w b o u) :
    relOpS Tryd.prog B ops op a (.inl (tnv u)) w := by
  unfold relOpS
  rw [if_pos hw]
  have hr : (execOp a.eval op).run Tryd.prog w = .ok (.value (tnv u)) w := by
    unfold execOp
    simp only [ho, hx, Instr.loadAt, Instr.sureAddr, Sem.run_bind, Sem.run_pure, Result.andThen_ok, run_loadVar_mid (P := Tryd.prog) w b o 77 (tnl u) _ hc Tryd.underlying77 rfl (size36 hu)]
    rfl
  rw [hr]
  exact ⟨StayS.refl _ _, rfl⟩
theorem rel_neq_tn {B : Nat} {ops : Array Oper} {op : Oper} {a : Act} {w : World} (hw : Region.wanted op (yielded ops a.tmps) = true) (x y : Operand) (ho : op.op = .binOp .neq 77 x y 77) (u : Tn) (hu : u.tok.length = 32) (hx : a.eval x = tnv u) (hy : a.eval y = tnv u) :
    relOpS Tryd.prog B ops op a (.inl (.bool false)) w := by
  unfold relOpS
  rw [if_pos hw]
  have h1 := neq_tn u hu w
  have h2 := eqg_tn .neq x y u w
  have hr : (execOp a.eval op).run Tryd.prog w = .ok (.value (.bool false)) w := by
    unfold execOp
    simp only [ho, hx, hy, Sem.run_bind, h1, h2, Result.andThen_ok, Sem.run_pure]
  rw [hr]
  exact ⟨StayS.refl _ _, rfl⟩
theorem setCells_blk {g : Nat} {T : TypeId} : ∀ (vs : List Value) (o : Nat) (w : World) (cur : Array Value), w.heap[g]? = some (.cells cur T (0, 0)) → ∃ cur', (w.setCells g o vs).heap[g]? = some (.cells cur' T (0, 0)) ∧ cur'.size = cur.size
  | [], o, w, cur, h => ⟨cur, h, rfl⟩
  | v :: vs, o, w, cur, h => by
    rw [World.setCells]
    obtain ⟨c, h1, h2⟩ := setCells_blk vs (o + 1) _ _ (set_blk h o v)
    exact ⟨c, h1, by simpa using h2⟩
theorem grown_setCells {a : World} {g : Nat} : ∀ (vs : List Value) (o : Nat) (w : World), a.grownBy w (some g) → a.grownBy (w.setCells g o vs) (some g)
  | [], o, w, h => h
  | v :: vs, o, w, h => by
    rw [World.setCells]
    exact grown_setCells vs (o + 1) _ (grown_setCell h rfl v)
/-- the law's own copy: from the i-th on as it came in. -/
def InW (B n : Nat) (ts : List Tn) (i : Nat) (A : Option Addr) (w : World) : Prop := n = 0 ∨ ∃ g off cur, A = some ⟨g, off, none⟩ ∧ B ≤ g ∧ w.heap[g]? = some (.cells cur 77 (0, 0)) ∧ off + n * 36 ≤ cur.size ∧ ∀ j, i ≤ j → j < n → TnAt w g (off + j * 36) (ts.getD j tn0)
theorem InW.of {B n c : Nat} {ts : List Tn} {A : Option Addr} {w : World} (hn : n = ts.length) (ht : Toks ts) (h : w.ownsRow B 77 36 (.slice A n c) n (tnc ts)) : InW B n ts 0 A w := by
  rcases h.2 with ⟨_, h0⟩ | ⟨g, cap, cur, e, hge, hg, hnc, _, hs, htk⟩
  · exact .inl h0
  · injection e with e _ _
    refine .inr ⟨g, 0, cur, e, hge, hg, by omega, fun j _ hj k v hk => ?_⟩
    have hk36 : k < 36 := by have := (List.getElem?_eq_some_iff.1 hk).1; rwa [tnl_length (ht.get j)] at this
    have h1 := tnc_get ht j k (by omega) hk36
    rw [← htk, List.getElem?_take] at h1
    split at h1
    · rw [Nat.zero_add, cell_blk hg, ← hk, ← h1]; simp
    · rw [← h1] at hk; cases hk
theorem TnAt.grown {w w' : World} {b o g : Nat} {u : Tn} (h : TnAt w b o u) (hb : b ≠ g) (hg : w.grownBy w' (some g)) : TnAt w' b o u := fun j v hv => grown_cell hg hb (h j v hv)
/-- one more is wiped. -/
theorem InW.step {B n i : Nat} {ts : List Tn} {g off : Nat} {w : World} {cur : Array Value} (hg : w.heap[g]? = some (.cells cur 77 (0, 0))) (hB : B ≤ g) (hs : off + n * 36 ≤ cur.size) (h : ∀ j, i ≤ j → j < n → TnAt w g (off + j * 36) (ts.getD j tn0)) (ht : Toks ts) (vs : List Value) (hv : vs.length = 36) :
    InW B n ts (i + 1) (some ⟨g, off, none⟩) (w.setCells g (off + i * 36) vs) := by
  obtain ⟨c, h1, h2⟩ := setCells_blk vs (off + i * 36) w cur hg
  refine .inr ⟨g, off, c, rfl, hB, h1, by omega, fun j hj hjn => ?_⟩
  exact World.rangeAt_setCells_apart (h j (by omega) hjn) g (off + i * 36) vs (.inr (.inr (by omega)))
theorem there_blk {w : World} {g : Nat} {T : TypeId} {cur : Array Value} (hg : w.heap[g]? = some (.cells cur T (0, 0))) {o k : Nat} (h : o + k ≤ cur.size) : w.there g o k := fun j hj => by
  refine ⟨?_, free_blk hg _⟩
  rw [cell_blk hg, Array.getElem?_eq_getElem (by omega)]
  rfl
theorem RefAt.wiped {w : World} {q : Nat} {t : Tb} (h : RefAt w q t) : RefAt (w.setCell ⟨q, 1, none⟩ (.slice none 0 0)) q ⟨t.ts, []⟩ ∧ w.grownBy (w.setCell ⟨q, 1, none⟩ (.slice none 0 0)) (some q) :=
  h.stored (bs := []) (v := .slice none 0 0) (Below.refl _ _) (World.ownsRow_nil _ _ _ _) ⟨by simp [ZRising], by simp, h.ok.ts, h.ok.toks, by simp⟩
theorem Bs.turned1 {w w' : World} {m : Nat} {bs : Zl} {A : Option Addr} {l : List UInt8} (h : Bs w w.heap.size A l) (hm : MapZ Tryd.prog 3 w m bs) (hg : w.grownBy w' (some m)) : Bs w' w'.heap.size A l := fun j hj => by
  obtain ⟨b, off, e, hb, hc⟩ := h j hj
  exact ⟨b, off, e, Nat.lt_of_lt_of_le hb hg.size, grown_cell hg (hm.no_cell hc) hc⟩
/-- bytes stay where the reference's table is written. -/
theorem Bs.turned2 {w w' : World} {q : Nat} {u : Tb} {A : Option Addr} {l : List UInt8} (h : Bs w w.heap.size A l) (hr : RefAt w q u) (hg : w.grownBy w' (some q)) : Bs w' w'.heap.size A l := fun j hj => by
  obtain ⟨b, off, e, hb, hc⟩ := h j hj
  refine ⟨b, off, e, Nat.lt_of_lt_of_le hb hg.size, grown_cell hg ?_ hc⟩
  rintro rfl
  obtain ⟨A', cap', Ab, cb, e1, _⟩ := hr.own
  rw [cell_blk e1] at hc
  generalize off + j = i at hc
  match i, hc with
  | 0, hc => simp at hc
  | 1, hc => simp at hc
  | i + 2, hc => simp at hc
theorem lent_at (l : List UInt8) (n : Nat) (hn : n = l.length) (hl : n ≤ 100000000) (A : Option Addr) (cap : Nat) (w : World) (hA : Bs w w.heap.size A l) :
    Calls Tryd.prog 15 #[.slice A n cap] w fun e w' => ∃ g, e = .returned (.slice (some ⟨g, 0, none⟩) n (n + 3)) ∧ w.heap.size ≤ g ∧
      w'.heap[g]? = some (.cells (bcells (l ++ marks l.length)).toArray 5 (0, 0)) ∧ Below w.heap.size w w' := by
  subst hn
  exact lent_bytes l hl A cap w hA
theorem kept_at (l : List UInt8) (n : Nat) (hn : n = l.length) (hl : n ≤ 100000000) (A : Option Addr) (cap g : Nat) (w : World) (hA : Bs w w.heap.size A l) (hg : w.heap[g]? = some (.cells (bcells (l ++ marks l.length)).toArray 5 (0, 0))) :
    Calls Tryd.prog 18 #[.slice (some ⟨g, 0, none⟩) n (n + 3), .slice A n cap] w fun e w' => e = .returned (.bool true) ∧ Below w.heap.size w w' := by
  subst hn
  exact kept_bytes l hl A cap g w hA hg
end Go.Proofs.YtkdkpnidiehdfaaDoor
end

section
set_option linter.unusedSimpArgs false
set_option linter.unusedVariables false
namespace Go.Proofs.YtkdkpnidiehdfaaDoor
open Go.RowKit

/- the law's loop over what it handed in: the same still, and wiped. -/
theorem InW.ext {B n i : Nat} {ts : List Tn} {A : Option Addr} {w w' : World} (h : InW B n ts i A w) (hb : Below w.heap.size w w') : InW B n ts i A w' := by
  rcases h with h | ⟨g, off, cur, h1, h2, h3, h4, h5⟩
  · exact .inl h
  · exact .inr ⟨g, off, cur, h1, h2, (hb.block _ (lt_blk h3)).trans h3, h4, fun j hj hjn k v hv => (hb.cell (p := ⟨g, _, none⟩) (lt_blk h3)).trans (h5 j hj hjn k v hv)⟩
theorem Below.of_grown {w w1 w2 : World} {g : Nat} (h : Below w.heap.size w w1) (hg : w1.grownBy w2 (some g)) (hge : w.heap.size ≤ g) : Below w.heap.size w w2 := h.grown hg h.size (fun k e => by cases e; exact hge)
set_option maxRecDepth 100000 in
set_option maxHeartbeats 16000000 in
theorem tenantscript_no (ts : List Tn) (A : Option Addr) (cap n : Nat) (hn : n = ts.length) (w : World) (hts : Tns w w.heap.size A ts) (ht : Toks ts) (hA0 : A = none → n = 0) (hcap : n ≤ cap) (hnm : ∀ x ∈ ts, x.nm.length ≤ 9223372036854775807) (hl70 : n ≤ 70)
    (A' : Option Addr) (cap' n' : Nat) (hl60 : n' ≤ 60) (who : Int) (hk : KMem w) (hc : chk ts ≠ 0) :
    Calls Tryd.prog 13 #[.slice A n cap, .slice A' n' cap', .int .i64 who] w fun e w' => e = .returned (.bool true) ∧ Below w.heap.size w w' := by
  have HRD0 := Lib.hid (hts.rd ht)
  have hlen := tnc_length ht
  rw [← hn] at hlen
  have HL := Lib.hid hlen
  have HK := Lib.hid hk; have HTS := Lib.hid hts; have HT := Lib.hid ht; have HA0 := Lib.hid hA0; have HNM := Lib.hid hnm; have HN := Lib.hid hn; have HCH := Lib.hid hc
  have gc : (chk ts != chk ts) = false := by simp
  clear hk hts ht hA0 hnm hn hlen hc
  go_enter Tryd.func13, Tryd.ntmps13
  go_wp2_with (at_builtin; refine wpList_append_srcS ES36 rfl (.tmp 28) (.tmp 29) rfl w.heap.size _ 0 [] rfl (owns0S w _ _ _ (Nat.le_refl _)) w.heap.size A (tnc ts) n cap rfl HL.out (HRD0.out.keep fun b o hb => World.cell?_alloc_lt _ _ _ hb) HA0.out (tnc_one ts) (by omega) (by omega) w (Nat.le_refl _) (below_alloc _ _) ?_; intro v' w2 h2 h3 h4 h5; clear h4 h5; rw [List.nil_append, Nat.zero_add] at h2; have H2 := Lib.hid h2; have H3 := Lib.hid h3; clear h2 h3; obtain ⟨A2, c2, rfl, hr2, hn2, hle2⟩ := own_rdS H2.out; have HR2 := Lib.hid hr2; have HN2 := Lib.hid hn2; clear hr2 hn2)
  have HTS2 : Hid (Tns w2 w2.heap.size A2 ts) := Lib.hid (Tns.of_rd HR2.out HT.out)
  have HIN2 := Lib.hid (InW.of HN.out HT.out H2.out)
  have HBT := Lib.hid (own_between H2.out)
  refine (check_any ts n HN.out (by omega) HT.out A2 c2 hle2 w2 HTS2.out).mono ?_
  rintro e w3 ⟨rfl, hb⟩
  have HB3 := Lib.hid hb
  clear hb
  go_wp2_with fail
  refine (refcheck_any ts n HN.out (by omega) HT.out A cap hcap HNM.out w3 (HTS.out.ext (H3.out.trans (HB3.out.mono H3.out.size)))).mono ?_
  rintro e w4 ⟨rfl, hb⟩
  have HB4 := Lib.hid (HB3.out.trans (hb.mono HB3.out.size))
  clear hb
  go_wp2_with fail
  refine (tnew_no ts n HN.out (by omega) HT.out A2 c2 hle2 w4 (HTS2.out.ext HB4.out) HCH.out).mono ?_
  rintro e w5 ⟨rfl, hb⟩
  have HB5 := Lib.hid (HB4.out.trans (hb.mono HB4.out.size))
  clear hb
  go_wp2_with fail
  refine (refnew_no ts n HN.out (by omega) HT.out A cap hcap HNM.out w5 (HTS.out.ext (H3.out.trans (HB5.out.mono H3.out.size))) HCH.out).mono ?_
  rintro e wN ⟨rfl, hb⟩
  have HB6 := Lib.hid (HB5.out.trans (hb.mono HB5.out.size))
  clear hb
  have HBN : Hid (Below w.heap.size w wN) := Lib.hid (H3.out.trans (HB6.out.mono H3.out.size))
  have HIN := Lib.hid (HIN2.out.ext HB6.out)
  obtain ⟨gI, hgI⟩ : ∃ gI, w.heap.size ≤ gI ∧ ∀ x, A2 = some x → x.block = gI := by
    cases A2 with
    | none => exact ⟨w.heap.size, Nat.le_refl _, fun x hx => by cases hx⟩
    | some a => exact ⟨a.block, (HBT.out a rfl).1, fun x hx => by cases hx; rfl⟩
  have HGI := Lib.hid hgI.2
  have hgIw := hgI.1
  clear hgI
  generalize chk ts = c at *
  go_wp2_with fail
  go_loopw [12] (fun iv wr => ∃ i : Nat, i ≤ n ∧ iv = .int .i64 i ∧ wN.grownBy wr (some gI) ∧ InW w.heap.size n ts i A2 wr) (fun iv _ => n - (RowKit.intOf iv).toNat)
  case atStart => exact ⟨0, by omega, rfl, ⟨rfl, rfl, rfl, Nat.le_refl _, fun _ _ _ => rfl⟩, HIN.out⟩
  case round =>
    obtain ⟨i, hi, rfl, hg, hin⟩ := hrel
    have HG := Lib.hid hg; have HI := Lib.hid hin
    clear hg hin
    by_cases hlt : i < n
    · rcases HI.out with h | ⟨g, off, cur, hA, hge, hgb, hsz, hts⟩
      · omega
      have hgI := (HGI.out _ hA).symm
      simp only at hgI
      subst hgI
      subst hA
      have HTI := Lib.hid (HT.out.get i)
      obtain ⟨bl, ol, rfl, hbl, hrl⟩ := (HTS.out) i (by rw [← HN.out]; exact hlt)
      have HRD : Hid (∀ W, Below wr.heap.size wr W → TnAt W gI (off + i * 36) (ts.getD i tn0) ∧ TnAt W bl (ol + i * 36) (ts.getD i tn0)) := Lib.hid fun W hW => by
        refine ⟨fun j v hv => (hW.cell (p := ⟨gI, _, none⟩) (lt_blk hgb)).trans (hts i (Nat.le_refl _) hlt j v hv), fun j v hv => ?_⟩
        have h1 : wN.cell? ⟨bl, ol + i * 36 + j, none⟩ = some v := (HBN.out.cell (p := ⟨bl, _, none⟩) hbl).trans (hrl j v hv)
        have h2 := grown_cell HG.out (by omega) h1
        have := HG.out.size
        have := HBN.out.size
        exact (hW.cell (p := ⟨bl, _, none⟩) (by show bl < _; omega)).trans h2
      have HST : Hid (∀ W, Below wr.heap.size wr W → ∀ vs : List Value, vs.length = 36 → wN.grownBy (W.setCells gI (off + i * 36) vs) (some gI) ∧ InW w.heap.size n ts (i + 1) (some ⟨gI, off, none⟩) (W.setCells gI (off + i * 36) vs) ∧ W.there gI (off + i * 36) 36) := Lib.hid fun W hW vs hv => by
        have hb2 := (hW.block _ (lt_blk hgb)).trans hgb
        refine ⟨grown_setCells vs _ _ ⟨hW.os.trans HG.out.os, hW.tape.trans HG.out.tape, hW.output.trans HG.out.output, Nat.le_trans HG.out.size hW.size, fun k hk hne => (hW.block k (Nat.lt_of_lt_of_le hk HG.out.size)).trans (HG.out.block k hk hne)⟩, ?_, there_blk hb2 (by omega)⟩
        exact InW.step hb2 hge hsz (fun j hj hjn k v hv => (hW.cell (p := ⟨gI, _, none⟩) (lt_blk hgb)).trans (hts j hj hjn k v hv)) HT.out vs hv
      clear hts hrl hgb
      generalize ts.getD i tn0 = u at *
      have hq1 : (i : Int) < (n : Int) := by omega
      go_upto_region 11 with fail
      apply wp_region_relS 9 [(Sum.inl _ : TT), (Sum.inl _ : TT), (Sum.inl _ : TT), (Sum.inl _ : TT), (Sum.inl _ : TT), (Sum.inl _ : TT), (Sum.inl _ : TT), (Sum.inl _ : TT), (Sum.inl _ : TT)] (by kernel_rfl) (by kernel_rfl) rfl
      simp only [List.take_succ_cons, List.take_zero, List.drop_succ_cons, List.drop_zero]
      iterate 3 (apply rel_isS; (intro W hW hf; go_simp; first | exact ⟨StayS.refl _ _, rfl⟩ | rfl); simp only [Act.put, List.setIfInBounds_toArray, List.set_cons_succ, List.set_cons_zero])
      apply rel_isS
      · intro W hW hf
        exact rel_load_tn rfl _ rfl gI (off + i * 36) rfl u HTI.out (HRD.out W hW).1
      simp only [Act.put, List.setIfInBounds_toArray, List.set_cons_succ, List.set_cons_zero]
      iterate 3 (apply rel_isS; (intro W hW hf; go_simp; first | exact ⟨StayS.refl _ _, rfl⟩ | rfl); simp only [Act.put, List.setIfInBounds_toArray, List.set_cons_succ, List.set_cons_zero])
      apply rel_isS
      · intro W hW hf
        exact rel_load_tn rfl _ rfl bl (ol + i * 36) rfl u HTI.out (HRD.out W hW).2
      simp only [Act.put, List.setIfInBounds_toArray, List.set_cons_succ, List.set_cons_zero]
      apply rel_isS
      · intro W hW hf
        exact rel_neq_tn rfl _ _ rfl u HTI.out rfl rfl
      simp only [Act.put, List.setIfInBounds_toArray, List.set_cons_succ, List.set_cons_zero]
      refine rel_endS ?_
      intro W hW hf
      try simp only [Act.put, List.setIfInBounds_toArray, List.set_cons_succ, List.set_cons_zero]
      have HW := Lib.hid (HST.out W hW)
      clear hW hf
      go_wp2_with (refine wpList_store_mid (op := ⟨none, .store 77 (.tmp 64) (.tmp 63), _, _, _, _⟩) rfl _ _ _ rfl gI (off + i * 36) _ rfl rfl (HW.out (tnl tn0) rfl).2.2 (by kernel_rfl) (by kernel_rfl) ?_)
      go_roundw
      case rel => exact ⟨i + 1, by omega, by go_num, (HW.out _ rfl).1, (HW.out _ rfl).2.1⟩
      case measure => simp [RowKit.intOf]; omega
    · obtain rfl : i = n := by omega
      have HGF := HG
      go_wp2_with fail
      go_loopw [13] (fun iv wr2 => wr2 = wr) (fun iv _ => 0)
      case atStart => rfl
      case round =>
        rw [hrel]
        go_wp2_with fail
        go_ret
        exact ⟨rfl, Below.of_grown HBN.out HGF.out hgIw⟩
/-- a round of the calls, behind the token that is lent. -/
structure Mid (w W : World) (p m q : Nat) (t u : Tb) (B : Nat) (k x : Int) (Ai : Option Addr) (nt ci : Nat) (tok : List UInt8) (g : Nat) : Prop where
  duo : Duo w W p m t q u
  hB : B < W.heap.size
  act : W.heap[B]? = some (.cells #[.int .i64 k, .int .i64 x, .slice Ai nt ci] 70 (0, 0))
  lent : W.heap[g]? = some (.cells (bcells (tok ++ marks tok.length)).toArray 5 (0, 0))
  hg : B < g
  bs : Bs W W.heap.size Ai tok
  hm : m < B
  hq : q < B
section
variable {w W W' : World} {p m q : Nat} {t u : Tb} {B : Nat} {k x : Int} {Ai : Option Addr} {nt ci : Nat} {tok : List UInt8} {g : Nat}
theorem Mid.ext (h : Mid w W p m q t u B k x Ai nt ci tok g) (hb : Below W.heap.size W W') : Mid w W' p m q t u B k x Ai nt ci tok g :=
  ⟨h.duo.ext hb, Nat.lt_of_lt_of_le h.hB hb.size, (hb.block _ h.hB).trans h.act, (hb.block _ (lt_blk h.lent)).trans h.lent, h.hg, (h.bs.below hb).more hb.size, h.hm, h.hq⟩
theorem Mid.turn {t' : Tb} (h : Mid w W p m q t u B k x Ai nt ci tok g) (ht : TabAt W' p m t') (hg : W.grownBy W' (some m)) : Mid w W' p m q t' u B k x Ai nt ci tok g := by
  have h1 := h.hm; have h2 := h.hg
  exact ⟨h.duo.turn ht hg, Nat.lt_of_lt_of_le h.hB hg.size, (hg.block _ h.hB (by simp; omega)).trans h.act, (hg.block _ (lt_blk h.lent) (by simp; omega)).trans h.lent, h.hg, h.bs.turned1 h.duo.one.tab.map hg, h.hm, h.hq⟩
theorem Mid.turn2 {u' : Tb} (h : Mid w W p m q t u B k x Ai nt ci tok g) (ht : RefAt W' q u') (hg : W.grownBy W' (some q)) : Mid w W' p m q t u' B k x Ai nt ci tok g := by
  have h1 := h.hq; have h2 := h.hg
  exact ⟨h.duo.turn2 ht hg, Nat.lt_of_lt_of_le h.hB hg.size, (hg.block _ h.hB (by simp; omega)).trans h.act, (hg.block _ (lt_blk h.lent) (by simp; omega)).trans h.lent, h.hg, h.bs.turned2 h.duo.ref hg, h.hm, h.hq⟩
theorem Mid.token (h : Mid w W p m q t u B k x Ai nt ci tok g) : Bs W W.heap.size (some ⟨g, 0, none⟩) tok := (Bs.blk (T := 5) h.lent).pre
theorem Mid.auth (h : Mid w W p m q t u B k x Ai nt ci tok g) (hf : t.bs.length < 1000000) (hx : inI x) (hn : nt = tok.length) (hl : nt ≤ 100000000) (c : Nat) :
    Calls Tryd.prog 42 #[.pointer (some ⟨p, 0, none⟩), .int .i64 x, .slice (some ⟨g, 0, none⟩) nt c] W fun e W' => e = .returned (.tuple #[.int .i64 (t.auth x tok).1.1, .int .i64 (t.auth x tok).1.2]) ∧ Mid w W' p m q (t.auth x tok).2 u B k x Ai nt ci tok g := by
  refine (tauth_at h.duo.one.tab hf hx tok nt hn hl (some ⟨g, 0, none⟩) c h.token h.duo.one.kmem).mono ?_
  rintro e w' ⟨he, ht, hg⟩
  exact ⟨he, h.turn ht hg⟩
theorem Mid.auth2 (h : Mid w W p m q t u B k x Ai nt ci tok g) (hf : u.bs.length < 1000000) (hx : inI x) (hn : nt = tok.length) (hl : nt ≤ 100000000) (hA0 : Ai = none → tok = []) :
    Calls Tryd.prog 48 #[.pointer (some ⟨q, 0, none⟩), .int .i64 x, .slice Ai nt ci] W fun e W' => e = .returned (.tuple #[.int .i64 (u.auth x tok).1.1, .int .i64 (u.auth x tok).1.2]) ∧ Mid w W' p m q t (u.auth x tok).2 B k x Ai nt ci tok g := by
  refine (refauth_at h.duo.ref hf hx tok nt hn hl Ai ci h.bs hA0).mono ?_
  rintro e w' ⟨he, ht, hg⟩
  exact ⟨he, h.turn2 ht hg⟩
theorem Mid.leave (h : Mid w W p m q t u B k x Ai nt ci tok g) (hx : inI x) :
    Calls Tryd.prog 44 #[.pointer (some ⟨p, 0, none⟩), .int .i64 x] W fun e W' => e = .returned (.int .i64 (t.leave x).1) ∧ Mid w W' p m q (t.leave x).2 u B k x Ai nt ci tok g := by
  refine (tleave_at h.duo.one.tab hx).mono ?_
  rintro e w' ⟨he, ht, hg⟩
  exact ⟨he, h.turn ht hg⟩
theorem Mid.leave2 (h : Mid w W p m q t u B k x Ai nt ci tok g) :
    Calls Tryd.prog 49 #[.pointer (some ⟨q, 0, none⟩), .int .i64 x] W fun e W' => e = .returned (.int .i64 (u.leave x).1) ∧ Mid w W' p m q t (u.leave x).2 B k x Ai nt ci tok g := by
  refine (refleave_at h.duo.ref x).mono ?_
  rintro e w' ⟨he, ht, hg⟩
  exact ⟨he, h.turn2 ht hg⟩
theorem Mid.clear (h : Mid w W p m q t u B k x Ai nt ci tok g) :
    Calls Tryd.prog 50 #[.pointer (some ⟨p, 0, none⟩)] W fun e W' => e = .returned (.int .i64 0) ∧ Mid w W' p m q ⟨t.ts, []⟩ u B k x Ai nt ci tok g := by
  refine (tclear_at h.duo.one.tab).mono ?_
  rintro e w' ⟨he, ht, hg⟩
  exact ⟨he, h.turn ht hg⟩
theorem Mid.wiped (h : Mid w W p m q t u B k x Ai nt ci tok g) : Mid w (W.setCell ⟨q, 1, none⟩ (.slice none 0 0)) p m q t ⟨u.ts, []⟩ B k x Ai nt ci tok g := h.turn2 h.duo.ref.wiped.1 h.duo.ref.wiped.2
end
theorem Mid.keeps {w : World} {p m q B : Nat} {t u : Tb} {k x : Int} {Ai : Option Addr} {nt ci : Nat} {tok : List UInt8} {g : Nat} : KeepsW (fun W => Mid w W p m q t u B k x Ai nt ci tok g) := fun _ _ h hb => h.ext hb
/- the end of a round: all is told. -/
set_option maxRecDepth 100000 in
set_option maxHeartbeats 16000000 in
theorem tenantscript_yes (ts : List Tn) (A : Option Addr) (cap n : Nat) (hn : n = ts.length) (w : World) (hts : Tns w w.heap.size A ts) (ht : Toks ts) (hA0 : A = none → n = 0) (hcap : n ≤ cap) (hnm : ∀ x ∈ ts, x.nm.length ≤ 9223372036854775807) (hl70 : n ≤ 70)
    (l : List Ca) (A' : Option Addr) (cap' n' : Nat) (hn' : n' = l.length) (hA : Cas w w.heap.size A' l) (hw : CaW l) (hl60 : n' ≤ 60) (who : Int) (hk : KMem w) (hc : chk ts = 0) :
    Calls Tryd.prog 13 #[.slice A n cap, .slice A' n' cap', .int .i64 who] w fun e w' => e = .returned (.bool true) ∧ Below w.heap.size w w' := by
  have HRD0 := Lib.hid (hts.rd ht)
  have hlen := tnc_length ht
  rw [← hn] at hlen
  have HL := Lib.hid hlen
  have HK := Lib.hid hk; have HTS := Lib.hid hts; have HT := Lib.hid ht; have HA0 := Lib.hid hA0; have HNM := Lib.hid hnm; have HN := Lib.hid hn; have HCH := Lib.hid hc
  have HCA := Lib.hid hA; have HCW := Lib.hid hw; have HN' := Lib.hid hn'
  clear hk hts ht hA0 hnm hn hlen hA hw hn'
  go_enter Tryd.func13, Tryd.ntmps13
  go_wp2_with (at_builtin; refine wpList_append_srcS ES36 rfl (.tmp 28) (.tmp 29) rfl w.heap.size _ 0 [] rfl (owns0S w _ _ _ (Nat.le_refl _)) w.heap.size A (tnc ts) n cap rfl HL.out (HRD0.out.keep fun b o hb => World.cell?_alloc_lt _ _ _ hb) HA0.out (tnc_one ts) (by omega) (by omega) w (Nat.le_refl _) (below_alloc _ _) ?_; intro v' w2 h2 h3 h4 h5; clear h4 h5; rw [List.nil_append, Nat.zero_add] at h2; have H2 := Lib.hid h2; have H3 := Lib.hid h3; clear h2 h3; obtain ⟨A2, c2, rfl, hr2, hn2, hle2⟩ := own_rdS H2.out; have HR2 := Lib.hid hr2; have HN2 := Lib.hid hn2; clear hr2 hn2)
  have HTS2 : Hid (Tns w2 w2.heap.size A2 ts) := Lib.hid (Tns.of_rd HR2.out HT.out)
  have HIN2 := Lib.hid (InW.of HN.out HT.out H2.out)
  have HBT := Lib.hid (own_between H2.out)
  refine (check_any ts n HN.out (by omega) HT.out A2 c2 hle2 w2 HTS2.out).mono ?_
  rintro e w3 ⟨rfl, hb⟩
  have HB3 := Lib.hid hb
  clear hb
  go_wp2_with fail
  refine (refcheck_any ts n HN.out (by omega) HT.out A cap hcap HNM.out w3 (HTS.out.ext (H3.out.trans (HB3.out.mono H3.out.size)))).mono ?_
  rintro e w4 ⟨rfl, hb⟩
  have HB4 := Lib.hid (HB3.out.trans (hb.mono HB3.out.size))
  clear hb
  rw [hc]
  clear hc
  go_wp2_with fail
  refine (tnew_full ts n HN.out (by omega) HT.out A2 c2 hle2 w4 (HTS2.out.ext HB4.out) HN2.out HCH.out).mono ?_
  rintro e w5 ⟨p, m, rfl, ht5, hp5, hm5, hb, At, ct, ho5, hAt⟩
  have HB5 := Lib.hid (HB4.out.trans (hb.mono HB4.out.size))
  have HT5 := Lib.hid ht5; have HO5 := Lib.hid ho5; have HAT := Lib.hid hAt
  have hsz4 := hb.size
  clear hb ht5 ho5 hAt
  go_wp2_with fail
  refine (refnew_full ts n HN.out (by omega) HT.out A cap hcap HNM.out w5 (HTS.out.ext (H3.out.trans (HB5.out.mono H3.out.size))) HA0.out HCH.out).mono ?_
  rintro e wN ⟨q, rfl, hr6, hq6, hb, Aq, cq, ho6, hAq⟩
  have HB6 := Lib.hid (HB5.out.trans (hb.mono HB5.out.size))
  have HTN := Lib.hid (HT5.out.below hb)
  have HON := Lib.hid ((hb.block _ (lt_blk HO5.out)).trans HO5.out)
  have HRN := Lib.hid hr6; have HOQ := Lib.hid ho6; have HAQ := Lib.hid hAq
  have hpw5 := lt_blk HO5.out
  have hmw5 := HT5.out.ltm
  clear hb hr6 ho6 hAq
  have HBN : Hid (Below w.heap.size w wN) := Lib.hid (H3.out.trans (HB6.out.mono H3.out.size))
  have HIN := Lib.hid (HIN2.out.ext HB6.out)
  obtain ⟨gI, hgI⟩ : ∃ gI, w.heap.size ≤ gI ∧ gI < w4.heap.size ∧ ∀ x, A2 = some x → x.block = gI := by
    cases A2 with
    | none =>
      have h0 := HN2.out rfl
      have h1 := HCH.out
      unfold chk at h1
      rw [if_pos (by have := HN.out; omega)] at h1
      cases h1
    | some a =>
      have h1 := HBT.out a rfl
      have h2 := HB4.out.size
      exact ⟨a.block, h1.1, by omega, fun x hx => by cases hx; rfl⟩
  have HGI := Lib.hid hgI.2.2
  have hgIw := hgI.1
  have hgI4 := hgI.2.1
  clear hgI
  go_wp2_with fail
  go_loopw [12] (fun iv wr => ∃ i : Nat, i ≤ n ∧ iv = .int .i64 i ∧ wN.grownBy wr (some gI) ∧ InW w.heap.size n ts i A2 wr) (fun iv _ => n - (RowKit.intOf iv).toNat)
  case atStart => exact ⟨0, by omega, rfl, ⟨rfl, rfl, rfl, Nat.le_refl _, fun _ _ _ => rfl⟩, HIN.out⟩
  case round =>
    obtain ⟨i, hi, rfl, hg, hin⟩ := hrel
    have HG := Lib.hid hg; have HI := Lib.hid hin
    clear hg hin
    by_cases hlt : i < n
    · rcases HI.out with h | ⟨g, off, cur, hA, hge, hgb, hsz, hts⟩
      · omega
      have hgI := (HGI.out _ hA).symm
      simp only at hgI
      subst hgI
      subst hA
      have HTI := Lib.hid (HT.out.get i)
      obtain ⟨bl, ol, rfl, hbl, hrl⟩ := (HTS.out) i (by rw [← HN.out]; exact hlt)
      have HRD : Hid (∀ W, Below wr.heap.size wr W → TnAt W gI (off + i * 36) (ts.getD i tn0) ∧ TnAt W bl (ol + i * 36) (ts.getD i tn0)) := Lib.hid fun W hW => by
        refine ⟨fun j v hv => (hW.cell (p := ⟨gI, _, none⟩) (lt_blk hgb)).trans (hts i (Nat.le_refl _) hlt j v hv), fun j v hv => ?_⟩
        have h1 : wN.cell? ⟨bl, ol + i * 36 + j, none⟩ = some v := (HBN.out.cell (p := ⟨bl, _, none⟩) hbl).trans (hrl j v hv)
        have h2 := grown_cell HG.out (by omega) h1
        have := HG.out.size
        have := HBN.out.size
        exact (hW.cell (p := ⟨bl, _, none⟩) (by show bl < _; omega)).trans h2
      have HST : Hid (∀ W, Below wr.heap.size wr W → ∀ vs : List Value, vs.length = 36 → wN.grownBy (W.setCells gI (off + i * 36) vs) (some gI) ∧ InW w.heap.size n ts (i + 1) (some ⟨gI, off, none⟩) (W.setCells gI (off + i * 36) vs) ∧ W.there gI (off + i * 36) 36) := Lib.hid fun W hW vs hv => by
        have hb2 := (hW.block _ (lt_blk hgb)).trans hgb
        refine ⟨grown_setCells vs _ _ ⟨hW.os.trans HG.out.os, hW.tape.trans HG.out.tape, hW.output.trans HG.out.output, Nat.le_trans HG.out.size hW.size, fun k hk hne => (hW.block k (Nat.lt_of_lt_of_le hk HG.out.size)).trans (HG.out.block k hk hne)⟩, ?_, there_blk hb2 (by omega)⟩
        exact InW.step hb2 hge hsz (fun j hj hjn k v hv => (hW.cell (p := ⟨gI, _, none⟩) (lt_blk hgb)).trans (hts j hj hjn k v hv)) HT.out vs hv
      clear hts hrl hgb
      generalize ts.getD i tn0 = u at *
      have hq1 : (i : Int) < (n : Int) := by omega
      go_upto_region 11 with fail
      apply wp_region_relS 9 [(Sum.inl _ : TT), (Sum.inl _ : TT), (Sum.inl _ : TT), (Sum.inl _ : TT), (Sum.inl _ : TT), (Sum.inl _ : TT), (Sum.inl _ : TT), (Sum.inl _ : TT), (Sum.inl _ : TT)] (by kernel_rfl) (by kernel_rfl) rfl
      simp only [List.take_succ_cons, List.take_zero, List.drop_succ_cons, List.drop_zero]
      iterate 3 (apply rel_isS; (intro W hW hf; go_simp; first | exact ⟨StayS.refl _ _, rfl⟩ | rfl); simp only [Act.put, List.setIfInBounds_toArray, List.set_cons_succ, List.set_cons_zero])
      apply rel_isS
      · intro W hW hf
        exact rel_load_tn rfl _ rfl gI (off + i * 36) rfl u HTI.out (HRD.out W hW).1
      simp only [Act.put, List.setIfInBounds_toArray, List.set_cons_succ, List.set_cons_zero]
      iterate 3 (apply rel_isS; (intro W hW hf; go_simp; first | exact ⟨StayS.refl _ _, rfl⟩ | rfl); simp only [Act.put, List.setIfInBounds_toArray, List.set_cons_succ, List.set_cons_zero])
      apply rel_isS
      · intro W hW hf
        exact rel_load_tn rfl _ rfl bl (ol + i * 36) rfl u HTI.out (HRD.out W hW).2
      simp only [Act.put, List.setIfInBounds_toArray, List.set_cons_succ, List.set_cons_zero]
      apply rel_isS
      · intro W hW hf
        exact rel_neq_tn rfl _ _ rfl u HTI.out rfl rfl
      simp only [Act.put, List.setIfInBounds_toArray, List.set_cons_succ, List.set_cons_zero]
      refine rel_endS ?_
      intro W hW hf
      try simp only [Act.put, List.setIfInBounds_toArray, List.set_cons_succ, List.set_cons_zero]
      have HW := Lib.hid (HST.out W hW)
      clear hW hf
      go_wp2_with (refine wpList_store_mid (op := ⟨none, .store 77 (.tmp 64) (.tmp 63), _, _, _, _⟩) rfl _ _ _ rfl gI (off + i * 36) _ rfl rfl (HW.out (tnl tn0) rfl).2.2 (by kernel_rfl) (by kernel_rfl) ?_)
      go_roundw
      case rel => exact ⟨i + 1, by omega, by go_num, (HW.out _ rfl).1, (HW.out _ rfl).2.1⟩
      case measure => simp [RowKit.intOf]; omega
    · obtain rfl : i = n := by omega
      have HGF := HG
      have HD : Hid (Duo w wr p m ⟨ts, []⟩ q ⟨ts, []⟩) := Lib.hid (by
        have hkm : KMem wr := fun j hj => by
          have hc := (HK.out.ext HBN.out) j hj
          have h0 := HK.out j hj
          refine grown_cell HGF.out ?_ hc
          have := World.block_lt_of_cell? _ _ h0
          omega
        refine ⟨⟨HTN.out.apart HGF.out (by omega) (by omega) HON.out (fun x hx => by have := (HAT.out x hx).1; omega), hkm, Below.of_grown HBN.out HGF.out hgIw, by have := H3.out.size; have := HB4.out.size; omega⟩, HRN.out.apart HGF.out (by omega) HOQ.out (fun x hx => by have := HAQ.out x hx; omega), by have := H3.out.size; have := HB5.out.size; omega, At, i, ct, (HGF.out.block _ (by have := lt_blk HON.out; omega) (by simp; omega)).trans HON.out, by omega, by omega, fun x hx => by have := (HAT.out x hx).2; omega⟩)
      clear HG HI HGF
      go_wp2_with fail
      clear HIN HIN2
      go_loopw [13, 14, 15, 16, 17, 18, 19, 98, 132, 143] (fun iv _ _ _ _ _ _ _ _ _ wr => ∃ (i : Nat) (t : Tb), i ≤ n' ∧ iv = .int .i64 i ∧ t.bs.length ≤ i ∧ Duo w wr p m t q t) (fun iv _ _ _ _ _ _ _ _ _ _ => n' - (RowKit.intOf iv).toNat)
      case atStart => exact ⟨0, _, by omega, rfl, Nat.le_refl _, HD.out⟩
      case round =>
        obtain ⟨i, t, hi, rfl, hlt0, hduo⟩ := hrel
        have HDU := Lib.hid hduo
        have hmr := hduo.one.tab.ltm
        have hqr := hduo.ref.lt
        clear hduo
        by_cases hlt : i < n'
        · obtain ⟨b, off, Ai, ci, rfl, hb, c0, c1, c2, hbs, hnil⟩ := (HCA.out.below HDU.out.one.below) i (by have := HN'.out; omega)
          have HBS := Lib.hid (hbs.more HDU.out.one.below.size); have HNIL := Lib.hid hnil
          have HI := Lib.hid (HCW.out.get i)
          clear hbs hnil
          generalize ha : l.getD i ca0 = a at *
          obtain ⟨k, x, tok⟩ := a
          simp only at c0 c1 c2 HBS HI HNIL
          obtain ⟨nt, hnt⟩ : ∃ nt, nt = tok.length := ⟨_, rfl⟩
          rw [← hnt] at c2
          have HNT := Lib.hid hnt
          clear ha hnt
          have hbx := heap_alloc_new wr (.cells #[.int .i64 k, .int .i64 x, .slice Ai nt ci] 70)
          have hbb := below_alloc wr (.cells #[.int .i64 k, .int .i64 x, .slice Ai nt ci] 70)
          have hszv : (wr.alloc (.cells #[.int .i64 k, .int .i64 x, .slice Ai nt ci] 70)).heap.size = wr.heap.size + 1 := by simp
          generalize hwv : wr.alloc (.cells #[.int .i64 k, .int .i64 x, .slice Ai nt ci] 70) = wv at *
          have HQ := Lib.hid hbx
          have HV := Lib.hid (HDU.out.ext hbb)
          have HBSV := Lib.hid ((HBS.out.below hbb).more hbb.size)
          have f0 : wv.cell? ⟨wr.heap.size, 0, none⟩ = some (.int .i64 k) := by rw [cell_blk hbx]; rfl
          have f1 : wv.cell? ⟨wr.heap.size, 1, none⟩ = some (.int .i64 x) := by rw [cell_blk hbx]; rfl
          have f2 : wv.cell? ⟨wr.heap.size, 2, none⟩ = some (.slice Ai nt ci) := by rw [cell_blk hbx]; rfl
          clear hbx hbb
          by_cases hlo : 200 < nt
          · go_wp2_with fail
            go_ret
            exact ⟨rfl, HV.out.one.below⟩
          go_wp2_with fail
          refine (lent_at tok nt HNT.out (by omega) Ai ci wv HBSV.out).mono ?_
          rintro e w6 ⟨g, rfl, hgg, hgb, hb6⟩
          have HM : Hid (Mid w w6 p m q t t wr.heap.size k x Ai nt ci tok g) := Lib.hid ⟨HV.out.ext hb6, by have := hb6.size; omega, (hb6.block _ (lt_blk HQ.out)).trans HQ.out, hgb, by omega, (HBSV.out.below hb6).more hb6.size, hmr, hqr⟩
          have j0 : w6.cell? ⟨wr.heap.size, 0, none⟩ = some (.int .i64 k) := by rw [cell_blk HM.out.act]; rfl
          have j1 : w6.cell? ⟨wr.heap.size, 1, none⟩ = some (.int .i64 x) := by rw [cell_blk HM.out.act]; rfl
          clear hgg hgb hb6 c0 c1 c2
          by_cases hk0 : k = 0
          · subst hk0
            have HA1 := Lib.hid (HM.out.auth (by omega) HI.out HNT.out (by omega) (nt + 3))
            have HA2 : Hid (∀ W, Mid w W p m q (t.auth x tok).2 t wr.heap.size 0 x Ai nt ci tok g → Calls Tryd.prog 48 #[.pointer (some ⟨q, 0, none⟩), .int .i64 x, .slice Ai nt ci] W fun e W' => e = .returned (.tuple #[.int .i64 (t.auth x tok).1.1, .int .i64 (t.auth x tok).1.2]) ∧ Mid w W' p m q (t.auth x tok).2 (t.auth x tok).2 wr.heap.size 0 x Ai nt ci tok g) := Lib.hid fun W h => h.auth2 (by omega) HI.out HNT.out (by omega) HNIL.out
            have HLT : Hid ((t.auth x tok).2.bs.length ≤ i + 1) := Lib.hid (Nat.le_trans (t.auth_length x tok) (by omega))
            generalize t.auth x tok = r at *
            obtain ⟨⟨v1, v2⟩, t9⟩ := r
            simp only at HA1 HA2 HLT
            have gv1 : (v1 != v1) = false := by simp
            have gv2 : (v2 != v2) = false := by simp
            go_wp2_with fail
            refine HA1.out.mono ?_
            rintro e w7 ⟨rfl, hm7⟩
            have HM7 := Lib.hid hm7
            have k1 : w7.cell? ⟨wr.heap.size, 1, none⟩ = some (.int .i64 x) := by rw [cell_blk HM7.out.act]; rfl
            have k2 : w7.cell? ⟨wr.heap.size, 2, none⟩ = some (.slice Ai nt ci) := by rw [cell_blk HM7.out.act]; rfl
            clear hm7
            go_wp2_with fail
            refine (HA2.out w7 HM7.out).mono ?_
            rintro e w8 ⟨rfl, hm8⟩
            have HM8 := Lib.hid hm8
            clear hm8 k1 k2
            have k2 : w8.cell? ⟨wr.heap.size, 2, none⟩ = some (.slice Ai nt ci) := by rw [cell_blk HM8.out.act]; rfl
            go_wp2_with fail
            refine (kept_at tok nt HNT.out (by omega) Ai ci g w8 HM8.out.bs HM8.out.lent).mono ?_
            rintro e W9 ⟨rfl, hb9⟩
            have HM9 := Lib.hid (HM8.out.ext hb9)
            clear hb9 k2
            have k1 : W9.cell? ⟨wr.heap.size, 1, none⟩ = some (.int .i64 x) := by rw [cell_blk HM9.out.act]; rfl
            go_wp2_with fail
            refine (told_at HM9.out.duo HI.out who).mono ?_
            rintro e w10 ⟨rfl, hb⟩
            have HM10 := Lib.hid (HM9.out.ext hb)
            clear hb
            go_wp2_with fail
            go_roundw
            case rel => exact ⟨i + 1, t9, by omega, by go_num, HLT.out, HM10.out.duo⟩
            case measure => simp [RowKit.intOf]; omega
          · have g0 : (k == 0) = false := by rw [beq_eq_false_iff_ne]; exact hk0
            by_cases hk1 : k = 1
            · subst hk1
              have HA1 : Hid (∀ W, Mid w W p m q t t wr.heap.size 1 x Ai nt ci tok g → Calls Tryd.prog 44 #[.pointer (some ⟨p, 0, none⟩), .int .i64 x] W fun e W' => e = .returned (.int .i64 (t.leave x).1) ∧ Mid w W' p m q (t.leave x).2 t wr.heap.size 1 x Ai nt ci tok g) := Lib.hid fun W h => h.leave HI.out
              have HA2 : Hid (∀ W, Mid w W p m q (t.leave x).2 t wr.heap.size 1 x Ai nt ci tok g → Calls Tryd.prog 49 #[.pointer (some ⟨q, 0, none⟩), .int .i64 x] W fun e W' => e = .returned (.int .i64 (t.leave x).1) ∧ Mid w W' p m q (t.leave x).2 (t.leave x).2 wr.heap.size 1 x Ai nt ci tok g) := Lib.hid fun W h => h.leave2
              have HLT : Hid ((t.leave x).2.bs.length ≤ i + 1) := Lib.hid (Nat.le_trans (t.leave_length x) (by omega))
              generalize t.leave x = r at *
              obtain ⟨v1, t9⟩ := r
              simp only at HA1 HA2 HLT
              have gv1 : (v1 != v1) = false := by simp
              go_upto_region 30 with fail
              apply wp_region_relC (fun W => W.heap[wr.heap.size]? = some (.cells #[.int .i64 1, .int .i64 x, .slice Ai nt ci] 70 (0, 0))) (fun W => Mid w W p m q t t wr.heap.size 1 x Ai nt ci tok g) 9 [(Sum.inl _ : TC), (Sum.inl _ : TC), (Sum.inl _ : TC), .inr (fun v => v = .int .i64 v1, fun _ W => Mid w W p m q t9 t wr.heap.size 1 x Ai nt ci tok g), (Sum.inl _ : TC), (Sum.inl _ : TC), (Sum.inl _ : TC), .inr (fun v => v = .int .i64 v1, fun _ W => Mid w W p m q t9 t9 wr.heap.size 1 x Ai nt ci tok g), (Sum.inl _ : TC)] [false, false, false, true, false, false, false, true, false] (by kernel_rfl) (by kernel_rfl) (by kernel_rfl) rfl rfl (Mid.keeps) (HM.out.act) (HM.out.ext (Below.refl _ _).drew)
              simp only [List.take_succ_cons, List.take_zero, List.drop_succ_cons, List.drop_zero]
              iterate 3 (apply rel_isC; (intro W hW hf; have u1 := cell_blk hW 1; go_simp; first | exact ⟨⟨hW, Below.refl _ _⟩, rfl⟩ | exact ⟨Below.refl _ _, rfl⟩ | rfl); simp only [Act.put, List.setIfInBounds_toArray, List.set_cons_succ, List.set_cons_zero])
              apply rel_effC
              · intro W hW hS
                exact rel_callE (by first | rfl | (go_simp; done) | (go_simp; simp)) (by go_simp <;> first | rfl | exact ⟨rfl, rfl⟩ | exact ⟨rfl, rfl, rfl⟩) ((HA1.out W hS).mono fun e W' h => ⟨_, h.1, h.2.act, rfl, h.2⟩)
              · exact fun _ => Mid.keeps
              intro a1
              simp only [Act.put, List.setIfInBounds_toArray, List.set_cons_succ, List.set_cons_zero]
              iterate 3 (apply rel_isC; (intro W hW hf; have u1 := cell_blk hW 1; go_simp; first | exact ⟨⟨hW, Below.refl _ _⟩, rfl⟩ | exact ⟨Below.refl _ _, rfl⟩ | rfl); simp only [Act.put, List.setIfInBounds_toArray, List.set_cons_succ, List.set_cons_zero])
              apply rel_effC
              · intro W hW hS
                exact rel_callE (by first | rfl | (go_simp; done) | (go_simp; simp)) (by go_simp <;> first | rfl | exact ⟨rfl, rfl⟩ | exact ⟨rfl, rfl, rfl⟩) ((HA2.out W hS).mono fun e W' h => ⟨_, h.1, h.2.act, rfl, h.2⟩)
              · exact fun _ => Mid.keeps
              intro a2
              simp only [Act.put, List.setIfInBounds_toArray, List.set_cons_succ, List.set_cons_zero]
              apply rel_isC
              · intro W hW hf
                have h1 : a1 = .int .i64 v1 := hf (137, fun _ => a1 = .int .i64 v1) (by simp) (by simp [Oper.looksAt, Op.operands, Call.operands])
                have h2 : a2 = .int .i64 v1 := hf (141, fun _ => a2 = .int .i64 v1) (by simp) (by simp [Oper.looksAt, Op.operands, Call.operands])
                subst h1 h2
                go_simp
                first | exact ⟨⟨hW, Below.refl _ _⟩, rfl⟩ | exact ⟨Below.refl _ _, rfl⟩ | rfl
              simp only [Act.put, List.setIfInBounds_toArray, List.set_cons_succ, List.set_cons_zero]
              refine rel_endC ?_
              intro W hW hS hf
              try simp only [Act.put, List.setIfInBounds_toArray, List.set_cons_succ, List.set_cons_zero]
              obtain ⟨W9, rfl⟩ : ∃ x, x = W := ⟨W, rfl⟩
              have HM9 := Lib.hid hS
              clear hW hS hf
              have k1 : W9.cell? ⟨wr.heap.size, 1, none⟩ = some (.int .i64 x) := by rw [cell_blk HM9.out.act]; rfl
              go_wp2_with fail
              refine (told_at HM9.out.duo HI.out who).mono ?_
              rintro e w10 ⟨rfl, hb⟩
              have HM10 := Lib.hid (HM9.out.ext hb)
              clear hb
              go_wp2_with fail
              go_roundw
              case rel => exact ⟨i + 1, t9, by omega, by go_num, HLT.out, HM10.out.duo⟩
              case measure => simp [RowKit.intOf]; omega
            · have g1 : (k == 1) = false := by rw [beq_eq_false_iff_ne]; exact hk1
              by_cases hk2 : k = 2
              · subst hk2
                obtain ⟨Aq2, cq2, Ab2, cb2, e1, _⟩ := HM.out.duo.ref.own
                have q1 : w6.cell? ⟨q, 1, none⟩ = some (.slice Ab2 t.bs.length cb2) := cell_blk e1 1
                have z1 := free_blk e1 1
                have HW6 := Lib.hid HM.out.wiped
                clear e1
                obtain ⟨t9, ht9⟩ : ∃ x : Tb, x = ⟨t.ts, []⟩ := ⟨_, rfl⟩
                have HLT : Hid (t9.bs.length ≤ i + 1) := Lib.hid (by rw [ht9]; exact Nat.zero_le _)
                have HA1 : Hid (Calls Tryd.prog 50 #[.pointer (some ⟨p, 0, none⟩)] (w6.setCell ⟨q, 1, none⟩ (.slice none 0 0)) fun e W' => e = .returned (.int .i64 0) ∧ Mid w W' p m q t9 t9 wr.heap.size 2 x Ai nt ci tok g) := Lib.hid (by rw [ht9]; exact HW6.out.clear)
                clear ht9
                generalize t.bs.length = L at *
                go_wp2_with fail
                refine HA1.out.mono ?_
                rintro e W9 ⟨rfl, hm9⟩
                have HM9 := Lib.hid hm9
                clear hm9
                have k1 : W9.cell? ⟨wr.heap.size, 1, none⟩ = some (.int .i64 x) := by rw [cell_blk HM9.out.act]; rfl
                go_wp2_with fail
                refine (told_at HM9.out.duo HI.out who).mono ?_
                rintro e w10 ⟨rfl, hb⟩
                have HM10 := Lib.hid (HM9.out.ext hb)
                clear hb
                go_wp2_with fail
                go_roundw
                case rel => exact ⟨i + 1, t9, by omega, by go_num, HLT.out, HM10.out.duo⟩
                case measure => simp [RowKit.intOf]; omega
              · have g2 : (k == 2) = false := by rw [beq_eq_false_iff_ne]; exact hk2
                have HLT : Hid (t.bs.length ≤ i + 1) := Lib.hid (by omega)
                obtain ⟨t9, rfl⟩ : ∃ x, x = t := ⟨t, rfl⟩
                obtain ⟨W9, rfl⟩ : ∃ x, x = w6 := ⟨w6, rfl⟩
                have HM9 := HM
                have k1 : W9.cell? ⟨wr.heap.size, 1, none⟩ = some (.int .i64 x) := by rw [cell_blk HM9.out.act]; rfl
                go_wp2_with fail
                refine (told_at HM9.out.duo HI.out who).mono ?_
                rintro e w10 ⟨rfl, hb⟩
                have HM10 := Lib.hid (HM9.out.ext hb)
                clear hb
                go_wp2_with fail
                go_roundw
                case rel => exact ⟨i + 1, t9, by omega, by go_num, HLT.out, HM10.out.duo⟩
                case measure => simp [RowKit.intOf]; omega
        · obtain rfl : i = n' := by omega
          go_wp2_with fail
          refine (told_at HDU.out (inI_small (by decide) (by decide)) 0).mono ?_
          rintro e w10 ⟨rfl, hb⟩
          have HE := Lib.hid (HDU.out.ext hb)
          clear hb
          go_wp2_with fail
          go_ret
          exact ⟨rfl, HE.out.one.below⟩
set_option maxRecDepth 100000 in
set_option maxHeartbeats 4000000 in
theorem tenantscript_walk (ts : List Tn) (A : Option Addr) (cap n : Nat) (l : List Ca) (A' : Option Addr) (cap' n' : Nat) (who : Int) (w : World) (hn : n = ts.length) (hts : Tns w w.heap.size A ts) (ht : Toks ts) (hA0 : A = none → n = 0) (hcap : n ≤ cap) (hnm : ∀ x ∈ ts, x.nm.length ≤ 9223372036854775807)
    (hn' : n' = l.length) (hA : Cas w w.heap.size A' l) (hw : CaW l) (_ : (Lit.int .i64 who).wf = true) (hk : KMem w) :
    Calls Tryd.prog 13 #[.slice A n cap, .slice A' n' cap', .int .i64 who] w fun e w' => e = .returned (.bool true) ∧ Below w.heap.size w w' := by
  by_cases h70 : 70 < n
  · clear hn hts ht hA0 hcap hnm hn' hA hw hk
    go_enter Tryd.func13, Tryd.ntmps13
    go_wp2_with fail
    go_ret
    exact ⟨rfl, Below.refl _ _⟩
  by_cases h60 : 60 < n'
  · clear hn hts ht hA0 hcap hnm hn' hA hw hk
    go_enter Tryd.func13, Tryd.ntmps13
    go_wp2_with fail
    go_ret
    exact ⟨rfl, Below.refl _ _⟩
  by_cases hc : chk ts = 0
  · exact tenantscript_yes ts A cap n hn w hts ht hA0 hcap hnm (by omega) l A' cap' n' hn' hA hw (by omega) who hk hc
  · exact tenantscript_no ts A cap n hn w hts ht hA0 hcap hnm (by omega) A' cap' n' (by omega) who hk hc
end Go.Proofs.YtkdkpnidiehdfaaDoor
end
