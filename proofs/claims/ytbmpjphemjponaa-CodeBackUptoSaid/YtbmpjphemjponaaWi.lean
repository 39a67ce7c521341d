/- (code.laid).value, values. -/
import Derived.Test.YtbmpjphemjponaaVn
import Derived.Test.YtbmpjphemjponaaMg1
import Derived.Test.YtbmpjphemjponaaSc
set_option linter.unusedSimpArgs false
set_option linter.unusedVariables false
namespace Go.Proofs.Ytbmpjphemjponaa
open Go.RowKit

def vlB (v : Vl) : List UInt8 := beb 1 v.t.toNat ++ beb 8 v.b.toNat
def vlsB (l : List Vl) : List UInt8 := beb 1 l.length ++ l.flatMap vlB
theorem vlB_len (v : Vl) : (vlB v).length = 9 := by simp [vlB, beb_length]
theorem Laid.from {w w0 w' : World} {base n : Nat} {v0 v : Value} {l : List UInt8} (h : Laid w0 base v0 n l v w') (hb : Below w.heap.size w w0) (hB : base ≤ w.heap.size) : Laid w base v0 n l v w' :=
  ⟨h.1, (hb.mono hB).trans h.2.1, ⟨h.2.2.1.os.trans hb.os, h.2.2.1.tape.trans hb.tape, h.2.2.1.output.trans hb.output, Nat.le_trans hb.size h.2.2.1.size, fun i hi hne => (h.2.2.1.block i (Nat.lt_of_lt_of_le hi hb.size) hne).trans (hb.block i hi)⟩,
    h.2.2.2.imp id fun f k hk => Nat.le_trans hb.size (f k hk)⟩
theorem Laid.keep {w w' : World} {base n : Nat} {v0 v : Value} {l : List UInt8} (h : Laid w base v0 n l v w') {g : Nat} (hg : g < w.heap.size) (hne : v0.ownBlock ≠ some g) : w'.heap[g]? = w.heap[g]? ∧ v.ownBlock ≠ some g :=
  ⟨h.2.2.1.block g hg (Ne.symm hne), by
    rcases h.2.2.2 with e | e
    · rw [e]; exact hne
    · intro e2; have := e g e2; omega⟩
theorem own_new {w : World} {base n sz : Nat} {e : TypeId} {v : Value} {xs : List Value} (h : w.ownsRow base e sz v n xs) {g : Nat} (hg : w.heap.size ≤ g) : v.ownBlock ≠ some g := by
  intro e; have := (h.lt g e).2; omega
theorem grown_after {a b c : World} {r : Option Nat} (h : a.grownBy b r) (h2 : Below b.heap.size b c) : a.grownBy c r :=
  ⟨h2.os.trans h.os, h2.tape.trans h.tape, h2.output.trans h.output, Nat.le_trans h.size h2.size, fun i hi hne => (h2.block i (Nat.lt_of_lt_of_le hi h.size)).trans (h.block i hi hne)⟩
theorem Laid.keeps (w : World) (base : Nat) (v0 : Value) (n : Nat) (l : List UInt8) (v : Value) (hB : base ≤ w.heap.size) : KeepsW (Laid w base v0 n l v) := fun W W' h hb =>
  ⟨own_below h.1 hb, h.2.1.trans (hb.mono (Nat.le_trans hB h.2.2.1.size)), grown_after h.2.2.1 hb, h.2.2.2⟩
theorem Laid.start {w : World} {base n : Nat} {v : Value} {l : List UInt8} (h : w.ownsRow base 5 1 v n (bcells l)) : Laid w base v n l v w.drew :=
  ⟨own_below h (Below.refl _ _).drew, (Below.refl _ _).drew, grown_after (World.grownBy.refl w _) (Below.refl _ _).drew, .inl rfl⟩
/-- a put behind what has been laid. -/
theorem Laid.put {w W : World} {base n : Nat} {v0 v : Value} {l : List UInt8} (h : Laid w base v0 n l v W) (hB : base ≤ w.heap.size) (x size : Nat) (hx : x < 18446744073709551616) (h8 : size ≤ 8) (hn : n ≤ 1000000000) (INV : World → Prop) (hI : ∀ v' W', Laid w base v0 (n + size) (l ++ beb size x) v' W' → INV W') :
    Calls Try.prog 38 #[v, .int .u64 x, .int .i64 size] W fun e w'' => ∃ v', e = .returned v' ∧ INV w'' ∧ True ∧ Laid w base v0 (n + size) (l ++ beb size x) v' w'' :=
  (put_any x size hx h8 base v n l hn W h.1 (Nat.le_trans hB h.2.2.1.size)).mono fun e w'' ⟨v', h1, h2⟩ => ⟨v', h1, hI _ _ (h.trans h2), trivial, h.trans h2⟩
set_option maxRecDepth 100000 in
set_option maxHeartbeats 2000000 in
theorem value_any (t b : Nat) (ht : t < 256) (hb : b < 18446744073709551616) (base : Nat) (v : Value) (n : Nat) (l : List UInt8) (hn : n ≤ 900000000) (w : World) (hown : w.ownsRow base 5 1 v n (bcells l)) (hB : base ≤ w.heap.size) :
    Calls Try.prog 66 #[v, .agg #[.int .u8 t, .int .u64 b]] w (GotL w base v (n + 9) (l ++ (beb 1 t ++ beb 8 b))) := by
  have HO := Lib.hid hown
  clear hown
  have HBb := Lib.hid hb
  clear hb
  go_enter Try.func66, Try.ntmps66
  go_upto_region 1 with (fail)
  obtain ⟨b0_, hb_⟩ := boxes1 w (.cells #[.int .u8 t, .int .u64 b] 51)
  generalize w.alloc (.cells #[.int .u8 t, .int .u64 b] 51) = w0 at *
  have T0b : Hid (∀ W, Below w0.heap.size w0 W → W.heap[w.heap.size]? = some (.cells #[.int .u8 t, .int .u64 b] 51 (0, 0))) := Lib.hid (fun W hW => (hW.block _ (lt_blk b0_)).trans b0_)
  have T0 : Hid (∀ W, Below w0.heap.size w0 W → W.cell? ⟨w.heap.size, 0, none⟩ = some (.int .u8 t) ∧ W.cell? ⟨w.heap.size, 1, none⟩ = some (.int .u64 b)) := Lib.hid (fun W hW => by have e := (hW.block _ (lt_blk b0_)).trans b0_; exact ⟨by rw [cell_blk e]; rfl, by rw [cell_blk e]; rfl⟩)
  have BA := Lib.hid hb_
  clear hb_ b0_
  have O0 := Lib.hid (own_below HO.out BA.out)
  have hlt : w.heap.size < w0.heap.size := lt_blk (T0b.out w0 (Below.refl _ _))
  have HNE := Lib.hid (own_new HO.out (Nat.le_refl _))
  have hB0 : base ≤ w0.heap.size := by omega
  have HI : Hid (∀ n' l' v' W', Laid w0 base v n' l' v' W' → W'.heap[w.heap.size]? = some (.cells #[.int .u8 t, .int .u64 b] 51 (0, 0))) := Lib.hid (fun n' l' v' W' h => (h.keep hlt HNE.out).1.trans (T0b.out w0 (Below.refl _ _)))
  have hwt : IntKind.u64.wrap (t : Int) = t := by rw [IntKind.wrap_u64]; omega
  apply wp_region_relC (fun W => W.heap[w.heap.size]? = some (.cells #[.int .u8 t, .int .u64 b] 51 (0, 0))) (Laid w0 base v n l v) 8 [(Sum.inl _ : TC), (Sum.inl _ : TC), (Sum.inl _ : TC), (Sum.inl _ : TC), .inr (fun _ => True, fun v1 => Laid w0 base v (n + 1) (l ++ beb 1 t) v1), (Sum.inl _ : TC), (Sum.inl _ : TC), .inr (fun _ => True, fun v1 => Laid w0 base v (n + 1 + 8) (l ++ beb 1 t ++ beb 8 b) v1)] [false, false, false, false, true, false, false, true] (by kernel_rfl) (by kernel_rfl) (by kernel_rfl) rfl rfl (Laid.keeps _ _ _ _ _ _ hB0) (T0b.out _ (Below.refl _ _).drew) (Laid.start O0.out)
  simp only [List.take_succ_cons, List.take_zero, List.drop_succ_cons, List.drop_zero]
  iterate 4 (apply rel_isC; (intro W hW hf; have u0 := cell_blk hW 0; have u1 := cell_blk hW 1; go_simp; first | exact ⟨⟨hW, Below.refl _ _⟩, rfl⟩ | exact ⟨Below.refl _ _, rfl⟩ | rfl); simp only [Act.put, List.setIfInBounds_toArray, List.set_cons_succ, List.set_cons_zero])
  apply rel_effC
  · intro W hW hS
    exact rel_callE (by first | rfl | (go_simp; done) | (go_simp; simp)) (by go_simp <;> first | rfl | exact ⟨rfl, rfl⟩ | exact ⟨rfl, rfl, rfl⟩) (hS.put hB0 t 1 (by omega) (by omega) (by omega) _ (fun v' W' h => HI.out _ _ v' W' h))
  · exact fun v => Laid.keeps _ _ _ _ _ _ hB0
  intro v1
  simp only [Act.put, List.setIfInBounds_toArray, List.set_cons_succ, List.set_cons_zero]
  iterate 2 (apply rel_isC; (intro W hW hf; have u0 := cell_blk hW 0; have u1 := cell_blk hW 1; go_simp; first | exact ⟨⟨hW, Below.refl _ _⟩, rfl⟩ | exact ⟨Below.refl _ _, rfl⟩ | rfl); simp only [Act.put, List.setIfInBounds_toArray, List.set_cons_succ, List.set_cons_zero])
  apply rel_effC
  · intro W hW hS
    exact rel_callE (by first | rfl | (go_simp; done) | (go_simp; simp)) (by go_simp <;> first | rfl | exact ⟨rfl, rfl⟩ | exact ⟨rfl, rfl, rfl⟩) (hS.put hB0 b 8 HBb.out (by omega) (by omega) _ (fun v' W' h => HI.out _ _ v' W' h))
  · exact fun v => Laid.keeps _ _ _ _ _ _ hB0
  intro v2
  simp only [Act.put, List.setIfInBounds_toArray, List.set_cons_succ, List.set_cons_zero]
  refine rel_endC ?_
  intro W hW hS hf
  try simp only [Act.put, List.setIfInBounds_toArray, List.set_cons_succ, List.set_cons_zero]
  have HS := Lib.hid hS
  clear hW hf hS hwt
  go_wp2_with fail
  go_ret
  exact ⟨v2, rfl, by have := HS.out.from BA.out hB; rwa [List.append_assoc] at this⟩
theorem Laid.then {w W : World} {base n n2 : Nat} {v0 v : Value} {l l2 : List UInt8} {F : FuncId} {args : Array Value} (INV : World → Prop) (h : Laid w base v0 n l v W) (hc : Calls Try.prog F args W (GotL W base v n2 l2)) (hI : ∀ v' W', Laid w base v0 n2 l2 v' W' → INV W') :
    Calls Try.prog F args W fun e w'' => ∃ v', e = .returned v' ∧ INV w'' ∧ True ∧ Laid w base v0 n2 l2 v' w'' :=
  hc.mono fun e w'' ⟨v', h1, h2⟩ => ⟨v', h1, hI _ _ (h.trans h2), trivial, h.trans h2⟩
theorem value_vl (x : Vl) (hx : VlIn x) (base : Nat) (v : Value) (n : Nat) (l : List UInt8) (hn : n ≤ 900000000) (w : World) (hown : w.ownsRow base 5 1 v n (bcells l)) (hB : base ≤ w.heap.size) :
    Calls Try.prog 66 #[v, .agg #[.int .u8 x.t, .int .u64 x.b]] w (GotL w base v (n + 9) (l ++ vlB x)) := by
  obtain ⟨⟨h1, h2⟩, h3, h4⟩ := hx
  obtain ⟨t, b⟩ := x
  dsimp only at *
  obtain ⟨t, rfl⟩ := Int.eq_ofNat_of_zero_le h1
  obtain ⟨b, rfl⟩ := Int.eq_ofNat_of_zero_le h3
  exact value_any t b (by omega) (by omega) base v n l hn w hown hB
theorem flat_snoc {α : Type} [Inhabited α] (f : α → List UInt8) (l : List α) (k : Nat) (h : k < l.length) : (l.take (k + 1)).flatMap f = (l.take k).flatMap f ++ f (l.getD k default) := by
  rw [List.take_succ_eq_append_getElem h, List.flatMap_append]
  simp [List.getD_eq_getElem?_getD, List.getElem?_eq_getElem h]
theorem flat_le {α : Type} (f : α → List UInt8) (l : List α) (k : Nat) : ((l.take k).flatMap f).length ≤ (l.flatMap f).length := by
  have h := congrArg List.length (congrArg (List.flatMap f) (List.take_append_drop k l))
  rw [List.flatMap_append, List.length_append] at h
  omega
theorem vls_len (l : List Vl) : (l.flatMap vlB).length = 9 * l.length := by
  induction l with
  | nil => rfl
  | cons a l ih => rw [List.flatMap_cons, List.length_append, ih, vlB_len, List.length_cons]; omega
theorem Laid.step {w w' : World} {base n n2 : Nat} {v0 v v' : Value} {l l2 : List UInt8} {W W' : World} (h : Laid w base v0 n l v W) (hb : Below W.heap.size W W') (hB : base ≤ w.heap.size) (h2 : Laid W' base v n2 l2 v' w') : Laid w base v0 n2 l2 v' w' := (Laid.keeps _ _ _ _ _ _ hB _ _ h hb).trans h2
set_option maxRecDepth 100000 in
set_option maxHeartbeats 2000000 in
theorem values_any (xs : List Vl) (m : Nat) (hm : m = xs.length) (hx : VsIn xs) (hl : m ≤ 4000000) (p : Slc) (B : Nat) (base : Nat) (v : Value) (n : Nat) (l : List UInt8) (hn : n + 1 + 9 * m ≤ 900000000) (w : World) (hown : w.ownsRow base 5 1 v n (bcells l)) (hB : base ≤ w.heap.size) (hBb : B ≤ base) (hs : VlsAt w B p xs) :
    Calls Try.prog 37 #[v, .slice p.1 m p.2] w (GotL w base v (n + 1 + 9 * m) (l ++ (beb 1 m ++ xs.flatMap vlB))) := by
  obtain ⟨A, c⟩ := p
  have HO := Lib.hid hown; have HS := Lib.hid hs; have HX := Lib.hid hx; have HM := Lib.hid hm
  clear hown hs hx hm
  have hwt : IntKind.u64.wrap (m : Int) = m := by rw [IntKind.wrap_u64]; omega
  dsimp only
  go_enter Try.func37, Try.ntmps37
  go_wp2_with fail
  refine (put_any m 1 (by omega) (by omega) base v n l (by omega) _ HO.out hB).mono ?_
  rintro e w1 ⟨v1, rfl, h1⟩
  have H1 := Lib.hid h1
  clear h1 hwt
  go_wp2_with fail
  go_loopw [0, 14] (fun u iv wr => ∃ (k : Nat) (v2 : Value), v2 = u ∧ k ≤ m ∧ iv = .int .i64 k ∧ Laid w base v (n + 1 + 9 * k) (l ++ beb 1 m ++ (xs.take k).flatMap vlB) v2 wr) (fun _ iv _ => m - (intOf iv).toNat)
  case atStart => exact ⟨0, _, rfl, by omega, rfl, by simpa using H1.out⟩
  case round =>
    obtain ⟨k, v2, rfl, hk, rfl, hl2⟩ := hrel
    have HL := Lib.hid hl2
    clear hl2
    by_cases hlt : k < m
    · obtain ⟨b, o, hA, hb1, x0, x1⟩ := VlsAt.cells HS.out (show k < xs.length by rw [← HM.out]; exact hlt)
      dsimp only at hA
      subst hA
      have x0 := (HL.out.2.1.cell (p := ⟨b, _, none⟩) (Nat.lt_of_lt_of_le hb1 hBb)).trans x0
      have x1 := (HL.out.2.1.cell (p := ⟨b, _, none⟩) (Nat.lt_of_lt_of_le hb1 hBb)).trans x1
      have HXk := Lib.hid (HX.out k (by rw [← HM.out]; exact hlt))
      have HF := Lib.hid (flat_snoc vlB xs k (by rw [← HM.out]; exact hlt))
      generalize xs.getD k default = a at *
      obtain ⟨t, bt⟩ := a
      dsimp only at *
      go_upto_region 5 with (fail)
      clear x0 x1
      obtain ⟨b0_, hb_⟩ := boxes1 wr (.cells #[.int .u8 t, .int .u64 bt] 51)
      generalize wr.alloc (.cells #[.int .u8 t, .int .u64 bt] 51) = wi at *
      have T0 : Hid (∀ W, Below wi.heap.size wi W → W.cell? ⟨wr.heap.size, 0, none⟩ = some (.int .u8 t) ∧ W.cell? ⟨wr.heap.size, 1, none⟩ = some (.int .u64 bt)) := Lib.hid (fun W hW => by have e := (hW.block _ (lt_blk b0_)).trans b0_; exact ⟨by rw [cell_blk e]; rfl, by rw [cell_blk e]; rfl⟩)
      have BA := Lib.hid hb_
      clear hb_ b0_
      obtain ⟨c0, c1⟩ := T0.out wi (Below.refl _ _)
      go_wp2_with fail
      refine (value_vl ⟨t, bt⟩ HXk.out base v2 (n + 1 + 9 * k) _ (by omega) wi (own_below HL.out.1 BA.out) (Nat.le_trans hB (Nat.le_trans HL.out.2.2.1.size BA.out.size))).mono ?_
      rintro e w2 ⟨v3, rfl, h3⟩
      have H3 := Lib.hid (HL.out.step BA.out hB h3)
      clear h3 c0 c1
      go_wp2_with fail
      go_roundw
      case rel => exact ⟨k + 1, v3, rfl, by omega, by go_num, by rw [HF.out, ← List.append_assoc]; exact H3.out⟩
      case measure => simp [intOf]; omega
    · obtain rfl : m = k := by omega
      have HE : Hid (xs.take m = xs) := Lib.hid (List.take_of_length_le (by rw [HM.out]; exact Nat.le_refl _))
      go_wp2_with fail
      go_ret
      exact ⟨v2, rfl, by have := HL.out; rwa [HE.out, List.append_assoc] at this⟩
end Go.Proofs.Ytbmpjphemjponaa
