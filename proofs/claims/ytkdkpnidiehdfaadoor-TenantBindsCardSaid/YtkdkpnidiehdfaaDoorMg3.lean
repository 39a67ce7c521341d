/- several texts in one: the tenants of the examples; a table under way., tenant.New., a table under way; awake. -/
import Derived.Test.YtkdkpnidiehdfaaDoorMg4
import Derived.Test.YtkdkpnidiehdfaaDoorZc
section
set_option linter.unusedSimpArgs false
set_option linter.unusedVariables false
namespace Go.Proofs.YtkdkpnidiehdfaaDoor
open Go.RowKit

def tok1 : List UInt8 := [75, 245, 18, 47, 52, 69, 84, 197, 59, 222, 46, 187, 140, 210, 183, 227, 209, 96, 10, 214, 49, 195, 133, 165, 215, 204, 226, 60, 119, 133, 69, 154]
def tok2 : List UInt8 := [219, 193, 180, 201, 0, 255, 228, 141, 87, 91, 93, 165, 198, 56, 4, 1, 37, 246, 93, 176, 254, 62, 36, 73, 75, 118, 234, 152, 100, 87, 217, 134]
def tok3 : List UInt8 := [8, 79, 237, 8, 185, 120, 175, 77, 125, 25, 106, 116, 70, 168, 107, 88, 0, 158, 99, 107, 97, 29, 177, 98, 17, 182, 90, 154, 173, 255, 41, 197]
set_option maxRecDepth 100000 in
theorem sha_one : sha [1] = tok1 := by decide +kernel
set_option maxRecDepth 100000 in
theorem sha_two : sha [2] = tok2 := by decide +kernel
set_option maxRecDepth 100000 in
theorem sha_three : sha [3] = tok3 := by decide +kernel
theorem dg_tok1 : dg tok1 = .agg #[.int .u8 75, .int .u8 245, .int .u8 18, .int .u8 47, .int .u8 52, .int .u8 69, .int .u8 84, .int .u8 197, .int .u8 59, .int .u8 222, .int .u8 46, .int .u8 187, .int .u8 140, .int .u8 210, .int .u8 183, .int .u8 227, .int .u8 209, .int .u8 96, .int .u8 10, .int .u8 214, .int .u8 49, .int .u8 195, .int .u8 133, .int .u8 165, .int .u8 215, .int .u8 204, .int .u8 226, .int .u8 60, .int .u8 119, .int .u8 133, .int .u8 69, .int .u8 154] := by kernel_rfl
theorem dg_tok2 : dg tok2 = .agg #[.int .u8 219, .int .u8 193, .int .u8 180, .int .u8 201, .int .u8 0, .int .u8 255, .int .u8 228, .int .u8 141, .int .u8 87, .int .u8 91, .int .u8 93, .int .u8 165, .int .u8 198, .int .u8 56, .int .u8 4, .int .u8 1, .int .u8 37, .int .u8 246, .int .u8 93, .int .u8 176, .int .u8 254, .int .u8 62, .int .u8 36, .int .u8 73, .int .u8 75, .int .u8 118, .int .u8 234, .int .u8 152, .int .u8 100, .int .u8 87, .int .u8 217, .int .u8 134] := by kernel_rfl
def twoT : List Tn := [⟨[97], tok1, 60000, 1, 1⟩, ⟨[98], tok2, 60000, 1, 2⟩]
theorem twoT_toks : Toks twoT := by
  intro x hx
  simp only [twoT, List.mem_cons, List.not_mem_nil, or_false] at hx
  rcases hx with rfl | rfl <;> rfl
set_option maxRecDepth 100000 in
theorem chk_two : chk twoT = 0 := by decide +kernel

theorem sum_lit (c : UInt8) (d : List UInt8) (hd : sha [c] = d) (w : World) (hk : KMem w) (g : Nat) (hg : w.heap[g]? = some (.cells #[.int .u8 c.toNat] 5 (0, 0))) : Calls Tryd.prog 16 #[.slice (some ⟨g, 0, none⟩) 1 1] w fun e w' => e = .returned (dg d) ∧ Below w.heap.size w w' := by
  have hb : Bs w w.heap.size (some ⟨g, 0, none⟩) [c] := Bs.blk (T := 5) hg
  refine (dig_sum [c] (by simp) (some ⟨g, 0, none⟩) 1 w hb hk).mono ?_
  rintro e w' ⟨rfl, h2⟩
  exact ⟨by rw [finish_sha, hd], h2⟩
theorem KMem.ext {w w' : World} (h : KMem w) (hb : Below w.heap.size w w') : KMem w' := KMem.below h hb h.pos
set_option maxRecDepth 100000 in
set_option maxHeartbeats 4000000 in
theorem two_at (w : World) (hk : KMem w) : Calls Tryd.prog 38 #[] w fun e w' => ∃ g, e = .returned (.slice (some ⟨g, 0, none⟩) 2 2) ∧ w'.heap[g]? = some (.cells (tnc twoT).toArray 77 (0, 0)) ∧ w.heap.size ≤ g ∧ Below w.heap.size w w' := by
  have HK := Lib.hid hk
  clear hk
  have HC : Hid (∀ w1, Below w.heap.size w w1 → KMem w1) := Lib.hid fun w1 hb => HK.out.ext hb
  clear HK
  go_enter Tryd.func38, Tryd.ntmps38
  go_wp2_with fail
  refine (sum_lit 1 tok1 sha_one _ (HC.out _ (below_alloc _ _)) w.heap.size (heap_alloc_new _ _)).mono ?_
  rintro e w1 ⟨rfl, hb1⟩
  have HB1 : Hid (Below w.heap.size w w1) := Lib.hid ((below_alloc w _).trans (hb1.mono (below_alloc w _).size))
  clear hb1
  rw [dg_tok1]
  go_wp2_with fail
  refine (sum_lit 2 tok2 sha_two _ (HC.out _ (HB1.out.trans ((below_alloc w1 _).mono HB1.out.size))) w1.heap.size (heap_alloc_new _ _)).mono ?_
  rintro e w2 ⟨rfl, hb2⟩
  have HB2 : Hid (Below w.heap.size w w2) := Lib.hid ((HB1.out.trans ((below_alloc w1 _).mono HB1.out.size)).trans (hb2.mono (by have := HB1.out.size; simp; omega)))
  clear hb2
  rw [dg_tok2]
  go_wp2_with fail
  go_ret
  exact ⟨w2.heap.size, rfl, heap_alloc_new _ _, HB2.out.size, HB2.out.trans ((below_alloc w2 _).mono HB2.out.size)⟩
end Go.Proofs.YtkdkpnidiehdfaaDoor
end

section
set_option linter.unusedSimpArgs false
set_option linter.unusedVariables false
namespace Go.Proofs.YtkdkpnidiehdfaaDoor
open Go.RowKit

set_option maxRecDepth 100000 in
set_option maxHeartbeats 2000000 in
theorem tnew_no (ts : List Tn) (n : Nat) (hn : n = ts.length) (hl : n ≤ 1000000) (ht : Toks ts) (A : Option Addr) (cap : Nat) (hcap : n ≤ cap) (w : World) (hA : Tns w w.heap.size A ts) (hc : chk ts ≠ 0) :
    Calls Tryd.prog 37 #[.slice A n cap] w fun e w' => e = .returned (.tuple #[.pointer none, .int .i64 (chk ts)]) ∧ Below w.heap.size w w' := by
  have HC := Lib.hid (check_any ts n hn (by omega) ht A cap hcap w hA)
  have h1 : (chk ts != 0) = true := by rw [bne_iff_ne]; exact hc
  clear hA ht hn hc
  generalize chk ts = c at *
  go_enter Tryd.func37, Tryd.ntmps37
  go_wp2_with fail
  refine HC.out.mono ?_
  rintro e w1 ⟨rfl, hb⟩
  have HB := Lib.hid hb
  clear hb
  go_wp2_with fail
  go_ret2
  exact ⟨rfl, HB.out⟩
set_option maxRecDepth 100000 in
set_option maxHeartbeats 2000000 in
theorem tnew_ok (ts : List Tn) (n : Nat) (hn : n = ts.length) (hl : n ≤ 1000000) (ht : Toks ts) (A : Option Addr) (cap : Nat) (hcap : n ≤ cap) (w : World) (hA : Tns w w.heap.size A ts) (hA0 : A = none → n = 0) (hc : chk ts = 0) :
    Calls Tryd.prog 37 #[.slice A n cap] w fun e w' => ∃ p m, e = .returned (.tuple #[.pointer (some ⟨p, 0, none⟩), .int .i64 0]) ∧ TabAt w' p m ⟨ts, []⟩ ∧ w.heap.size ≤ p ∧ w.heap.size ≤ m ∧ Below w.heap.size w w' := by
  have HC := Lib.hid (check_any ts n hn (by omega) ht A cap hcap w hA)
  rw [hc] at HC
  have HL : Hid (∀ w', Below w.heap.size w w' → Calls Tryd.prog 63 #[.slice A n cap] w' fun e w2 => ∃ v, e = .returned v ∧ w2.ownsRow w'.heap.size 77 36 v n (tnc ts) ∧ Below w'.heap.size w' w2) :=
    Lib.hid fun w' hb => clone_tens ts n hn hl ht A cap w' (hA.ext hb) hA0
  have HT := Lib.hid ht; have HN := Lib.hid hn
  have HK : Hid (n ≤ 64) := Lib.hid (by
    unfold chk at hc
    split at hc
    · cases hc
    · omega)
  clear hA hA0 ht hn hc
  have hmm := @run_makeMap Tryd.prog
  go_enter Tryd.func37, Tryd.ntmps37
  go_wp2_with fail
  refine HC.out.mono ?_
  rintro e w1 ⟨rfl, hb⟩
  have HB := Lib.hid hb
  clear hb
  go_wp2_with fail
  refine (HL.out w1 HB.out).mono ?_
  rintro e w2 ⟨v, rfl, ho, hb2⟩
  obtain ⟨A2, c2, rfl, hr, hn2, hc2⟩ := own_rdS ho
  have HR := Lib.hid hr; have HB2 := Lib.hid hb2
  clear ho hr hb2
  go_wp2_with fail
  go_ret2
  have e1 := heap_alloc_new w2 (.map #[] 0)
  have e2 := heap_alloc_new (w2.alloc (.map #[] 0)) (.cells #[.slice A2 n c2, .map (some w2.heap.size)] 95)
  rw [World.size_alloc] at e2
  have hz := HB.out.size
  have hz2 := HB2.out.size
  have hb3 : Below w2.heap.size w2 ((w2.alloc (.map #[] 0)).alloc (.cells #[.slice A2 n c2, .map (some w2.heap.size)] 95)) := ((Below.refl _ _).alloc (Nat.le_refl _) _).alloc (by simp) _
  refine ⟨_, w2.heap.size, rfl, ⟨⟨A2, c2, ?_, ?_, by rw [← HN.out]; exact hc2⟩, (MapZ.made _ _ w2).below (by exact ((Below.refl _ _).alloc (Nat.le_refl _) _)), ⟨by simp [ZRising], by simp, by rw [← HN.out]; exact HK.out, HT.out, by simp⟩⟩, ?_, by omega, (HB.out.trans (HB2.out.mono hz)).trans (hb3.mono (by omega))⟩
  · rw [← HN.out]; exact e2
  · exact (Tns.of_rd HR.out HT.out).ext hb3
  · omega
end Go.Proofs.YtkdkpnidiehdfaaDoor
end

section
set_option linter.unusedSimpArgs false
set_option linter.unusedVariables false
namespace Go.Proofs.YtkdkpnidiehdfaaDoor
open Go.RowKit

/-- a table that the law has made, and all that lay when the law began. -/
structure Ses (w0 w : World) (p m : Nat) (t : Tb) : Prop where
  tab : TabAt w p m t
  kmem : KMem w
  below : Below w0.heap.size w0 w
  hm : w0.heap.size ≤ m
section
variable {w0 w w' : World} {p m : Nat} {t t' : Tb}
theorem Ses.ext (h : Ses w0 w p m t) (hb : Below w.heap.size w w') : Ses w0 w' p m t := ⟨h.tab.below hb, h.kmem.ext hb, h.below.trans (hb.mono h.below.size), h.hm⟩
theorem Ses.alloc (h : Ses w0 w p m t) (o : Obj) : Ses w0 (w.alloc o) p m t := h.ext (below_alloc w o)
theorem KMem.turned (h : KMem w) (hm : MapZ Tryd.prog 3 w m t.bs) (hg : w.grownBy w' (some m)) : KMem w' := fun i hi => by
  have h1 := h i hi
  have hne := hm.no_cell h1
  exact (World.cell?_of_block (hg.block _ (World.block_lt_of_cell? _ _ h1) (by simpa using hne))).trans h1
theorem Ses.turn (h : Ses w0 w p m t) (ht : TabAt w' p m t') (hg : w.grownBy w' (some m)) : Ses w0 w' p m t' :=
  ⟨ht, h.kmem.turned h.tab.map hg, h.below.grown hg h.below.size (fun k e => by cases e; exact h.hm), h.hm⟩
theorem Ses.auth (h : Ses w0 w p m t) (hf : t.bs.length < 1000000) {x : Int} (hx : inI x) (tok : List UInt8) (n : Nat) (hn : n = tok.length) (hl : n ≤ 100000000) (A : Option Addr) (cap : Nat) (hA : Bs w w.heap.size A tok) :
    Calls Tryd.prog 42 #[.pointer (some ⟨p, 0, none⟩), .int .i64 x, .slice A n cap] w fun e w' => e = .returned (.tuple #[.int .i64 (t.auth x tok).1.1, .int .i64 (t.auth x tok).1.2]) ∧ Ses w0 w' p m (t.auth x tok).2 := by
  refine (tauth_at h.tab hf hx tok n hn hl A cap hA h.kmem).mono ?_
  rintro e w' ⟨he, ht, hg⟩
  exact ⟨he, h.turn ht hg⟩
/-- with a token of one byte that is laid for the call. -/
theorem Ses.auth1 (h : Ses w0 w p m t) (hf : t.bs.length < 1000000) {x : Int} (hx : inI x) (c : UInt8) {a b : Int} {t2 : Tb} (ha : t.auth x [c] = ((a, b), t2)) :
    Calls Tryd.prog 42 #[.pointer (some ⟨p, 0, none⟩), .int .i64 x, .slice (some ⟨w.heap.size, 0, none⟩) 1 1] (w.alloc (.cells #[.int .u8 c.toNat] 5)) fun e w' => e = .returned (.tuple #[.int .i64 a, .int .i64 b]) ∧ Ses w0 w' p m t2 := by
  have hb : Bs (w.alloc (.cells #[.int .u8 c.toNat] 5)) (w.alloc (.cells #[.int .u8 c.toNat] 5)).heap.size (some ⟨w.heap.size, 0, none⟩) [c] := Bs.blk (T := 5) (heap_alloc_new w _)
  have := Ses.auth (h.alloc (.cells #[.int .u8 c.toNat] 5)) hf hx [c] 1 rfl (by decide) (some ⟨w.heap.size, 0, none⟩) 1 hb
  rw [ha] at this
  exact this
theorem Ses.leave (h : Ses w0 w p m t) {x : Int} (hx : inI x) {a : Int} {t2 : Tb} (ha : t.leave x = (a, t2)) :
    Calls Tryd.prog 44 #[.pointer (some ⟨p, 0, none⟩), .int .i64 x] w fun e w' => e = .returned (.int .i64 a) ∧ Ses w0 w' p m t2 := by
  have := tleave_at h.tab hx
  rw [ha] at this
  refine this.mono ?_
  rintro e w' ⟨he, ht, hg⟩
  exact ⟨he, h.turn ht hg⟩
theorem Ses.who (h : Ses w0 w p m t) {x : Int} (hx : inI x) {a : Int} {b : Bool} (ha : t.who x = (a, b)) :
    Calls Tryd.prog 43 #[.pointer (some ⟨p, 0, none⟩), .int .i64 x] w fun e w' => e = .returned (.tuple #[.int .i64 a, .bool b]) ∧ Ses w0 w' p m t := by
  have := twho_at h.tab hx
  rw [ha] at this
  refine this.mono ?_
  rintro e w' ⟨he, hb⟩
  exact ⟨he, h.ext hb⟩
theorem Ses.len (h : Ses w0 w p m t) (n : Nat) (hn : t.ts.length = n) : Calls Tryd.prog 52 #[.pointer (some ⟨p, 0, none⟩)] w fun e w' => e = .returned (.int .i64 n) ∧ Ses w0 w' p m t := by
  have := tlen_at h.tab
  rw [hn] at this
  refine this.mono ?_
  rintro e w' ⟨he, hb⟩
  exact ⟨he, h.ext hb⟩
theorem Ses.conns (h : Ses w0 w p m t) (who : Int) (l : List Int) (hl : connsOf t.bs who = l) : Calls Tryd.prog 41 #[.pointer (some ⟨p, 0, none⟩), .int .i64 who] w fun e w' => ∃ v, e = .returned v ∧ w'.ownsRow w.heap.size 3 1 v l.length (l.map encZ) ∧ Below w.heap.size w w' ∧ Ses w0 w' p m t := by
  have := conns_at h.tab who
  rw [hl] at this
  refine this.mono ?_
  rintro e w' ⟨v, he, hr, hb⟩
  exact ⟨v, he, hr, hb, h.ext hb⟩
end
theorem Tns.of_block {w : World} {g : Nat} {T : TypeId} {ts : List Tn} (hg : w.heap[g]? = some (.cells (tnc ts).toArray T (0, 0))) (ht : Toks ts) : Tns w w.heap.size (some ⟨g, 0, none⟩) ts :=
  Tns.of_rd (fun j u hu => ⟨g, 0, rfl, lt_blk hg, by rw [cell_blk hg, Nat.zero_add]; simpa using hu⟩) ht
theorem new_two (w0 w : World) (hk : KMem w) (hb : Below w0.heap.size w0 w) (g : Nat) (hg : w.heap[g]? = some (.cells (tnc twoT).toArray 77 (0, 0))) :
    Calls Tryd.prog 37 #[.slice (some ⟨g, 0, none⟩) 2 2] w fun e w' => ∃ p m, e = .returned (.tuple #[.pointer (some ⟨p, 0, none⟩), .int .i64 0]) ∧ Ses w0 w' p m ⟨twoT, []⟩ ∧ w.heap.size ≤ p ∧ w.heap.size ≤ m ∧ Below w.heap.size w w' := by
  refine (tnew_ok twoT 2 rfl (by decide) twoT_toks (some ⟨g, 0, none⟩) 2 (Nat.le_refl _) w (Tns.of_block hg twoT_toks) (fun h => by cases h) chk_two).mono ?_
  rintro e w' ⟨p, m, he, ht, hp, hm, hb2⟩
  exact ⟨p, m, he, ⟨ht, hk.ext hb2, hb.trans (hb2.mono hb.size), Nat.le_trans hb.size hm⟩, hp, hm, hb2⟩
instance : DecidableEq Tb := fun a b => if h : a.ts = b.ts ∧ a.bs = b.bs then isTrue (by cases a; cases b; simp only [Tb.mk.injEq]; exact h) else isFalse (fun e => h (by rw [e]; exact ⟨rfl, rfl⟩))
def T0 : Tb := ⟨twoT, []⟩
def T1 : Tb := ⟨twoT, [(5, 0)]⟩
theorem au0 : (⟨twoT, []⟩ : Tb).auth 5 [1] = ((0, 0), ⟨twoT, [(5, 0)]⟩) := by decide +kernel
theorem au1 : (⟨twoT, [(5, 0)]⟩ : Tb).auth 6 [1] = ((0, 8), ⟨twoT, [(5, 0)]⟩) := by decide +kernel
theorem inI_small {x : Int} (h1 : -1000 ≤ x) (h2 : x ≤ 1000) : inI x := by unfold inI; omega
set_option maxRecDepth 100000 in
set_option maxHeartbeats 4000000 in
theorem awake_at (w : World) (hk : KMem w) : Calls Tryd.prog 36 #[] w fun e w' => e = .returned (.bool true) ∧ Below w.heap.size w w' := by
  have HK := Lib.hid hk
  clear hk
  go_enter Tryd.func36, Tryd.ntmps36
  go_wp2_with fail
  refine (two_at w HK.out).mono ?_
  rintro e w1 ⟨g, rfl, hg, hgw, hb1⟩
  have HB1 := Lib.hid hb1; have HG := Lib.hid hg
  clear hb1 hg
  go_wp2_with fail
  refine (new_two w w1 (HK.out.ext HB1.out) HB1.out g HG.out).mono ?_
  rintro e w2 ⟨p, m, rfl, hs, _, _, _⟩
  have HS := Lib.hid hs
  clear hs
  go_wp2_with fail
  refine (HS.out.auth1 (by decide) (inI_small (by decide) (by decide)) 1 au0).mono ?_
  rintro e w3 ⟨rfl, hs⟩
  have HS3 := Lib.hid hs
  clear hs
  go_wp2_with fail
  refine (HS3.out.auth1 (by decide) (inI_small (by decide) (by decide)) 1 au1).mono ?_
  rintro e w4 ⟨rfl, hs⟩
  have HS4 := Lib.hid hs
  clear hs
  go_wp2_with fail
  refine (HS4.out.len 2 rfl).mono ?_
  rintro e w5 ⟨rfl, hs⟩
  have HS5 := Lib.hid hs
  clear hs
  go_wp2_with fail
  go_ret
  exact ⟨rfl, HS5.out.below⟩
end Go.Proofs.YtkdkpnidiehdfaaDoor
end
