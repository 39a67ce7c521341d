/- a table under way; awake. -/
import Derived.Test.YtkdkpnidiehdfaaDoorZf
import Derived.Test.YtkdkpnidiehdfaaDoorZw
set_option linter.unusedSimpArgs false
set_option linter.unusedVariables false
namespace Go.Proofs.YtkdkpnidiehdfaaDoor
open Go.RowKit

/-- a table that the law has made, and all that lay when the law began. -/
structure Ses (w0 w : World) (p m : Nat) (t : Tb) : Prop where
  tab : TabAt w p m t
  kmem : KMem w
  below : Below w0.heap.size w0 w
  hm : w0.heap.size ≤ m
section
variable {w0 w w' : World} {p m : Nat} {t t' : Tb}
theorem Ses.ext (h : Ses w0 w p m t) (hb : Below w.heap.size w w') : Ses w0 w' p m t := ⟨h.tab.below hb, h.kmem.ext hb, h.below.trans (hb.mono h.below.size), h.hm⟩
theorem Ses.alloc (h : Ses w0 w p m t) (o : Obj) : Ses w0 (w.alloc o) p m t := h.ext (below_alloc w o)
theorem KMem.turned (h : KMem w) (hm : MapZ Tryd.prog 3 w m t.bs) (hg : w.grownBy w' (some m)) : KMem w' := fun i hi => by
  have h1 := h i hi
  have hne := hm.no_cell h1
  exact (World.cell?_of_block (hg.block _ (World.block_lt_of_cell? _ _ h1) (by simpa using hne))).trans h1
theorem Ses.turn (h : Ses w0 w p m t) (ht : TabAt w' p m t') (hg : w.grownBy w' (some m)) : Ses w0 w' p m t' :=
  ⟨ht, h.kmem.turned h.tab.map hg, h.below.grown hg h.below.size (fun k e => by cases e; exact h.hm), h.hm⟩
theorem Ses.auth (h : Ses w0 w p m t) (hf : t.bs.length < 1000000) {x : Int} (hx : inI x) (tok : List UInt8) (n : Nat) (hn : n = tok.length) (hl : n ≤ 100000000) (A : Option Addr) (cap : Nat) (hA : Bs w w.heap.size A tok) :
    Calls Tryd.prog 42 #[.pointer (some ⟨p, 0, none⟩), .int .i64 x, .slice A n cap] w fun e w' => e = .returned (.tuple #[.int .i64 (t.auth x tok).1.1, .int .i64 (t.auth x tok).1.2]) ∧ Ses w0 w' p m (t.auth x tok).2 := by
  refine (tauth_at h.tab hf hx tok n hn hl A cap hA h.kmem).mono ?_
  rintro e w' ⟨he, ht, hg⟩
  exact ⟨he, h.turn ht hg⟩
/-- with a token of one byte that is laid for the call. -/
theorem Ses.auth1 (h : Ses w0 w p m t) (hf : t.bs.length < 1000000) {x : Int} (hx : inI x) (c : UInt8) {a b : Int} {t2 : Tb} (ha : t.auth x [c] = ((a, b), t2)) :
    Calls Tryd.prog 42 #[.pointer (some ⟨p, 0, none⟩), .int .i64 x, .slice (some ⟨w.heap.size, 0, none⟩) 1 1] (w.alloc (.cells #[.int .u8 c.toNat] 5)) fun e w' => e = .returned (.tuple #[.int .i64 a, .int .i64 b]) ∧ Ses w0 w' p m t2 := by
  have hb : Bs (w.alloc (.cells #[.int .u8 c.toNat] 5)) (w.alloc (.cells #[.int .u8 c.toNat] 5)).heap.size (some ⟨w.heap.size, 0, none⟩) [c] := Bs.blk (T := 5) (heap_alloc_new w _)
  have := Ses.auth (h.alloc (.cells #[.int .u8 c.toNat] 5)) hf hx [c] 1 rfl (by decide) (some ⟨w.heap.size, 0, none⟩) 1 hb
  rw [ha] at this
  exact this
theorem Ses.leave (h : Ses w0 w p m t) {x : Int} (hx : inI x) {a : Int} {t2 : Tb} (ha : t.leave x = (a, t2)) :
    Calls Tryd.prog 44 #[.pointer (some ⟨p, 0, none⟩), .int .i64 x] w fun e w' => e = .returned (.int .i64 a) ∧ Ses w0 w' p m t2 := by
  have := tleave_at h.tab hx
  rw [ha] at this
  refine this.mono ?_
  rintro e w' ⟨he, ht, hg⟩
  exact ⟨he, h.turn ht hg⟩
theorem Ses.who (h : Ses w0 w p m t) {x : Int} (hx : inI x) {a : Int} {b : Bool} (ha : t.who x = (a, b)) :
    Calls Tryd.prog 43 #[.pointer (some ⟨p, 0, none⟩), .int .i64 x] w fun e w' => e = .returned (.tuple #[.int .i64 a, .bool b]) ∧ Ses w0 w' p m t := by
  have := twho_at h.tab hx
  rw [ha] at this
  refine this.mono ?_
  rintro e w' ⟨he, hb⟩
  exact ⟨he, h.ext hb⟩
theorem Ses.len (h : Ses w0 w p m t) (n : Nat) (hn : t.ts.length = n) : Calls Tryd.prog 52 #[.pointer (some ⟨p, 0, none⟩)] w fun e w' => e = .returned (.int .i64 n) ∧ Ses w0 w' p m t := by
  have := tlen_at h.tab
  rw [hn] at this
  refine this.mono ?_
  rintro e w' ⟨he, hb⟩
  exact ⟨he, h.ext hb⟩
theorem Ses.conns (h : Ses w0 w p m t) (who : Int) (l : List Int) (hl : connsOf t.bs who = l) : Calls Tryd.prog 41 #[.pointer (some ⟨p, 0, none⟩), .int .i64 who] w fun e w' => ∃ v, e = .returned v ∧ w'.ownsRow w.heap.size 3 1 v l.length (l.map encZ) ∧ Below w.heap.size w w' ∧ Ses w0 w' p m t := by
  have := conns_at h.tab who
  rw [hl] at this
  refine this.mono ?_
  rintro e w' ⟨v, he, hr, hb⟩
  exact ⟨v, he, hr, hb, h.ext hb⟩
end
theorem Tns.of_block {w : World} {g : Nat} {T : TypeId} {ts : List Tn} (hg : w.heap[g]? = some (.cells (tnc ts).toArray T (0, 0))) (ht : Toks ts) : Tns w w.heap.size (some ⟨g, 0, none⟩) ts :=
  Tns.of_rd (fun j u hu => ⟨g, 0, rfl, lt_blk hg, by rw [cell_blk hg, Nat.zero_add]; simpa using hu⟩) ht
theorem new_two (w0 w : World) (hk : KMem w) (hb : Below w0.heap.size w0 w) (g : Nat) (hg : w.heap[g]? = some (.cells (tnc twoT).toArray 77 (0, 0))) :
    Calls Tryd.prog 37 #[.slice (some ⟨g, 0, none⟩) 2 2] w fun e w' => ∃ p m, e = .returned (.tuple #[.pointer (some ⟨p, 0, none⟩), .int .i64 0]) ∧ Ses w0 w' p m ⟨twoT, []⟩ ∧ w.heap.size ≤ p ∧ w.heap.size ≤ m ∧ Below w.heap.size w w' := by
  refine (tnew_ok twoT 2 rfl (by decide) twoT_toks (some ⟨g, 0, none⟩) 2 (Nat.le_refl _) w (Tns.of_block hg twoT_toks) (fun h => by cases h) chk_two).mono ?_
  rintro e w' ⟨p, m, he, ht, hp, hm, hb2⟩
  exact ⟨p, m, he, ⟨ht, hk.ext hb2, hb.trans (hb2.mono hb.size), Nat.le_trans hb.size hm⟩, hp, hm, hb2⟩
instance : DecidableEq Tb := fun a b => if h : a.ts = b.ts ∧ a.bs = b.bs then isTrue (by cases a; cases b; simp only [Tb.mk.injEq]; exact h) else isFalse (fun e => h (by rw [e]; exact ⟨rfl, rfl⟩))
def T0 : Tb := ⟨twoT, []⟩
def T1 : Tb := ⟨twoT, [(5, 0)]⟩
theorem au0 : (⟨twoT, []⟩ : Tb).auth 5 [1] = ((0, 0), ⟨twoT, [(5, 0)]⟩) := by decide +kernel
theorem au1 : (⟨twoT, [(5, 0)]⟩ : Tb).auth 6 [1] = ((0, 8), ⟨twoT, [(5, 0)]⟩) := by decide +kernel
theorem inI_small {x : Int} (h1 : -1000 ≤ x) (h2 : x ≤ 1000) : inI x := by unfold inI; omega
set_option maxRecDepth 100000 in
set_option maxHeartbeats 4000000 in
theorem awake_at (w : World) (hk : KMem w) : Calls Tryd.prog 36 #[] w fun e w' => e = .returned (.bool true) ∧ Below w.heap.size w w' := by
  have HK := Lib.hid hk
  clear hk
  go_enter Tryd.func36, Tryd.ntmps36
  go_wp2_with fail
  refine (two_at w HK.out).mono ?_
  rintro e w1 ⟨g, rfl, hg, hgw, hb1⟩
  have HB1 := Lib.hid hb1; have HG := Lib.hid hg
  clear hb1 hg
  go_wp2_with fail
  refine (new_two w w1 (HK.out.ext HB1.out) HB1.out g HG.out).mono ?_
  rintro e w2 ⟨p, m, rfl, hs, _, _, _⟩
  have HS := Lib.hid hs
  clear hs
  go_wp2_with fail
  refine (HS.out.auth1 (by decide) (inI_small (by decide) (by decide)) 1 au0).mono ?_
  rintro e w3 ⟨rfl, hs⟩
  have HS3 := Lib.hid hs
  clear hs
  go_wp2_with fail
  refine (HS3.out.auth1 (by decide) (inI_small (by decide) (by decide)) 1 au1).mono ?_
  rintro e w4 ⟨rfl, hs⟩
  have HS4 := Lib.hid hs
  clear hs
  go_wp2_with fail
  refine (HS4.out.len 2 rfl).mono ?_
  rintro e w5 ⟨rfl, hs⟩
  have HS5 := Lib.hid hs
  clear hs
  go_wp2_with fail
  go_ret
  exact ⟨rfl, HS5.out.below⟩
end Go.Proofs.YtkdkpnidiehdfaaDoor
