/- several texts in one: what a log tells: Len, Size, Broken, Fits., a log alone on its disk: plain; the chapter's example., the chapter's example, LogExact. -/
import Derived.Test.YtdmodhcbcpmadaaNc
import Derived.Test.YtdmodhcbcpmadaaKg
section
set_option linter.unusedSimpArgs false
set_option linter.unusedVariables false
namespace Go.Proofs.Ytdmodhcbcpmadaa
open Go.RowKit

set_option maxRecDepth 100000 in
set_option maxHeartbeats 2000000 in
theorem llen_at {w : World} {q p : Nat} {L : Lg} (h : LogAt w q p L) : Calls Try.prog 42 #[.pointer (some ⟨q, 0, none⟩)] w fun e w' => e = .returned (.int .i64 L.n) ∧ w' = w := by
  have c0 := cell_blk h 3
  simp only [List.getElem?_toArray, List.getElem?_cons_succ, List.getElem?_cons_zero] at c0
  have HN := Lib.hid (lnone_at h)
  go_enter Try.func42, Try.ntmps42
  go_wp2_with fail
  refine HN.out.mono ?_
  rintro e w1 ⟨rfl, rfl⟩
  go_wp2_with fail
  go_ret
  exact ⟨rfl, rfl⟩
set_option maxRecDepth 100000 in
set_option maxHeartbeats 2000000 in
theorem lsize_at {w : World} {q p : Nat} {L : Lg} (h : LogAt w q p L) : Calls Try.prog 40 #[.pointer (some ⟨q, 0, none⟩)] w fun e w' => e = .returned (.int .i64 L.size) ∧ w' = w := by
  have c0 := cell_blk h 4
  simp only [List.getElem?_toArray, List.getElem?_cons_succ, List.getElem?_cons_zero] at c0
  have HN := Lib.hid (lnone_at h)
  go_enter Try.func40, Try.ntmps40
  go_wp2_with fail
  refine HN.out.mono ?_
  rintro e w1 ⟨rfl, rfl⟩
  go_wp2_with fail
  go_ret
  exact ⟨rfl, rfl⟩
set_option maxRecDepth 100000 in
set_option maxHeartbeats 2000000 in
theorem lbroken_at {w : World} {q p : Nat} {L : Lg} (h : LogAt w q p L) : Calls Try.prog 43 #[.pointer (some ⟨q, 0, none⟩)] w fun e w' => e = .returned (.bool L.broken) ∧ w' = w := by
  have c0 := cell_blk h 5
  simp only [List.getElem?_toArray, List.getElem?_cons_succ, List.getElem?_cons_zero] at c0
  have HN := Lib.hid (lnone_at h)
  go_enter Try.func43, Try.ntmps43
  go_wp2_with fail
  refine HN.out.mono ?_
  rintro e w1 ⟨rfl, rfl⟩
  go_wp2_with fail
  go_ret
  exact ⟨rfl, rfl⟩
set_option maxRecDepth 100000 in
set_option maxHeartbeats 2000000 in
theorem fsize_at (n : Nat) (hn : n ≤ 65536) (w : World) : Calls Try.prog 73 #[.int .i64 n] w fun e w' => e = .returned (.int .i64 (n + 12 : Nat)) ∧ w' = w := by
  go_enter Try.func73, Try.ntmps73
  go_wp2_with fail
  go_ret
  exact ⟨by simp only [Int.natCast_add]; rfl, rfl⟩
def lfits (L : Lg) (n : Int) : Bool := decide (0 ≤ n ∧ n ≤ 65536 ∧ n + 12 + L.size ≤ L.reserve)
set_option maxRecDepth 100000 in
set_option maxHeartbeats 2000000 in
theorem lfits_at {w : World} {q p : Nat} {L : Lg} (h : LogAt w q p L) (hok : L.Ok) (n : Int) : Calls Try.prog 41 #[.pointer (some ⟨q, 0, none⟩), .int .i64 n] w fun e w' => e = .returned (.bool (lfits L n)) ∧ Below w.heap.size w w' := by
  have HL := Lib.hid h
  have HN : Hid (∀ W, Below w.heap.size w W → Calls Try.prog 72 #[.pointer (some ⟨q, 0, none⟩)] W fun e w' => e = .returned (.bool false) ∧ Below W.heap.size W w') := Lib.hid fun W hW => (lnone_at (L := L) (show LogAt W q p L from (hW.block _ h.lt).trans h)).mono fun e w' h => ⟨h.1, h.2 ▸ Below.refl _ _⟩
  have HCC : Hid (∀ W, Below w.heap.size w W → W.cell? ⟨q, 2, none⟩ = some (.int .i64 L.reserve) ∧ W.cell? ⟨q, 4, none⟩ = some (.int .i64 L.size)) := Lib.hid fun W hW => by
    have a := cell_blk ((hW.block _ h.lt).trans h)
    exact ⟨a 2, a 4⟩
  have h1 := hok.reserve; have h2 := hok.size
  have hwr : IntKind.i64.wrap ((L.reserve : Int) - (L.size : Int)) = (L.reserve : Int) - (L.size : Int) := wi64 _ (by omega) (by omega)
  clear h hok
  go_enter Try.func41, Try.ntmps41
  go_upto_region 1 with (fail)
  by_cases hn : n < 0
  · have HZ : Hid (lfits L n = false) := Lib.hid (by unfold lfits; rw [decide_eq_false]; omega)
    have hn2 : ¬ 0 ≤ n := by omega
    apply wp_region_relH (H := []) 25 [(Sum.inl _ : TT), (Sum.inl _ : TT), (Sum.inl _ : TT), (Sum.inl _ : TT), (Sum.inl _ : TT), (Sum.inl _ : TT), (Sum.inl _ : TT), (Sum.inl _ : TT), (Sum.inl _ : TT), (Sum.inl _ : TT), (Sum.inl _ : TT), (Sum.inl _ : TT), (Sum.inl _ : TT), (Sum.inl _ : TT), (Sum.inl _ : TT), (Sum.inl _ : TT), (Sum.inl _ : TT), (Sum.inl _ : TT), (Sum.inl _ : TT), (Sum.inl _ : TT), (Sum.inl _ : TT), (Sum.inl _ : TT), (Sum.inl _ : TT), (Sum.inl _ : TT), (Sum.inl _ : TT)] (by kernel_rfl) (by kernel_rfl) (fun _ _ _ _ _ h => h) rfl
    simp only [List.take_succ_cons, List.take_zero, List.drop_succ_cons, List.drop_zero]
    iterate 1 (apply rel_isS; (intro W hW hf; go_simp; first | exact ⟨StayS.refl _ _, rfl⟩ | rfl); simp only [Act.put, List.setIfInBounds_toArray, List.set_cons_succ, List.set_cons_zero])
    apply rel_isS
    · intro W hW hf
      exact rel_callS hW rfl (by go_simp <;> first | rfl | exact ⟨rfl, rfl⟩ | exact ⟨rfl, rfl, rfl⟩) ((HN.out W hW).mono fun e w'' h => ⟨_, h.1, h.2, rfl⟩)
    simp only [Act.put, List.setIfInBounds_toArray, List.set_cons_succ, List.set_cons_zero]
    iterate 23 (apply rel_isS; (intro W hW hf; go_simp; first | exact ⟨StayS.refl _ _, rfl⟩ | rfl); simp only [Act.put, List.setIfInBounds_toArray, List.set_cons_succ, List.set_cons_zero])
    refine rel_endS ?_
    intro W hW hf
    try simp only [Act.put, List.setIfInBounds_toArray, List.set_cons_succ, List.set_cons_zero]
    have HW := Lib.hid hW
    clear hW hf
    go_wp2_with fail
    go_ret
    exact ⟨ret_bool (by rw [HZ.out]), HW.out⟩
  · obtain ⟨n, rfl⟩ : ∃ k : Nat, n = k := ⟨n.toNat, by omega⟩
    by_cases hm : 65536 < n
    · have HZ : Hid (lfits L n = false) := Lib.hid (by unfold lfits; rw [decide_eq_false]; omega)
      have hm2 : ¬ (n : Int) ≤ 65536 := by omega
      apply wp_region_relH (H := []) 25 [(Sum.inl _ : TT), (Sum.inl _ : TT), (Sum.inl _ : TT), (Sum.inl _ : TT), (Sum.inl _ : TT), (Sum.inl _ : TT), (Sum.inl _ : TT), (Sum.inl _ : TT), (Sum.inl _ : TT), (Sum.inl _ : TT), (Sum.inl _ : TT), (Sum.inl _ : TT), (Sum.inl _ : TT), (Sum.inl _ : TT), (Sum.inl _ : TT), (Sum.inl _ : TT), (Sum.inl _ : TT), (Sum.inl _ : TT), (Sum.inl _ : TT), (Sum.inl _ : TT), (Sum.inl _ : TT), (Sum.inl _ : TT), (Sum.inl _ : TT), (Sum.inl _ : TT), (Sum.inl _ : TT)] (by kernel_rfl) (by kernel_rfl) (fun _ _ _ _ _ h => h) rfl
      simp only [List.take_succ_cons, List.take_zero, List.drop_succ_cons, List.drop_zero]
      iterate 1 (apply rel_isS; (intro W hW hf; go_simp; first | exact ⟨StayS.refl _ _, rfl⟩ | rfl); simp only [Act.put, List.setIfInBounds_toArray, List.set_cons_succ, List.set_cons_zero])
      apply rel_isS
      · intro W hW hf
        exact rel_callS hW rfl (by go_simp <;> first | rfl | exact ⟨rfl, rfl⟩ | exact ⟨rfl, rfl, rfl⟩) ((HN.out W hW).mono fun e w'' h => ⟨_, h.1, h.2, rfl⟩)
      simp only [Act.put, List.setIfInBounds_toArray, List.set_cons_succ, List.set_cons_zero]
      iterate 23 (apply rel_isS; (intro W hW hf; go_simp; first | exact ⟨StayS.refl _ _, rfl⟩ | rfl); simp only [Act.put, List.setIfInBounds_toArray, List.set_cons_succ, List.set_cons_zero])
      refine rel_endS ?_
      intro W hW hf
      try simp only [Act.put, List.setIfInBounds_toArray, List.set_cons_succ, List.set_cons_zero]
      have HW := Lib.hid hW
      clear hW hf
      go_wp2_with fail
      go_ret
      exact ⟨ret_bool (by rw [HZ.out]), HW.out⟩
    · have hm2 : (n : Int) ≤ 65536 := by omega
      have hsm : n ≤ 65536 := by omega
      have HSZ := Lib.hid (fun W => fsize_at n hsm W)
      have HZ : Hid (lfits L n = decide (((n + 12 : Nat) : Int) ≤ (L.reserve : Int) - (L.size : Int))) := Lib.hid (by unfold lfits; rw [decide_eq_decide]; omega)
      apply wp_region_relH (H := []) 25 [(Sum.inl _ : TT), (Sum.inl _ : TT), (Sum.inl _ : TT), (Sum.inl _ : TT), (Sum.inl _ : TT), (Sum.inl _ : TT), (Sum.inl _ : TT), (Sum.inl _ : TT), (Sum.inl _ : TT), (Sum.inl _ : TT), (Sum.inl _ : TT), (Sum.inl _ : TT), (Sum.inl _ : TT), (Sum.inl _ : TT), (Sum.inl _ : TT), (Sum.inl _ : TT), (Sum.inl _ : TT), (Sum.inl _ : TT), (Sum.inl _ : TT), (Sum.inl _ : TT), (Sum.inl _ : TT), (Sum.inl _ : TT), (Sum.inl _ : TT), (Sum.inl _ : TT), (Sum.inl _ : TT)] (by kernel_rfl) (by kernel_rfl) (fun _ _ _ _ _ h => h) rfl
      simp only [List.take_succ_cons, List.take_zero, List.drop_succ_cons, List.drop_zero]
      iterate 1 (apply rel_isS; (intro W hW hf; go_simp; first | exact ⟨StayS.refl _ _, rfl⟩ | rfl); simp only [Act.put, List.setIfInBounds_toArray, List.set_cons_succ, List.set_cons_zero])
      apply rel_isS
      · intro W hW hf
        exact rel_callS hW rfl (by go_simp <;> first | rfl | exact ⟨rfl, rfl⟩ | exact ⟨rfl, rfl, rfl⟩) ((HN.out W hW).mono fun e w'' h => ⟨_, h.1, h.2, rfl⟩)
      simp only [Act.put, List.setIfInBounds_toArray, List.set_cons_succ, List.set_cons_zero]
      iterate 11 (apply rel_isS; (intro W hW hf; go_simp; first | exact ⟨StayS.refl _ _, rfl⟩ | rfl); simp only [Act.put, List.setIfInBounds_toArray, List.set_cons_succ, List.set_cons_zero])
      apply rel_isS
      · intro W hW hf
        exact rel_callS hW (by first | rfl | (go_simp; done) | (go_simp; simp)) (by go_simp <;> first | rfl | exact ⟨rfl, rfl⟩ | exact ⟨rfl, rfl, rfl⟩) ((HSZ.out W).mono fun e w'' h => ⟨_, h.1, h.2 ▸ Below.refl _ _, rfl⟩)
      simp only [Act.put, List.setIfInBounds_toArray, List.set_cons_succ, List.set_cons_zero]
      iterate 11 (apply rel_isS; (intro W hW hf; obtain ⟨z1, z2⟩ := HCC.out W hW; go_simp; first | exact ⟨StayS.refl _ _, rfl⟩ | rfl); simp only [Act.put, List.setIfInBounds_toArray, List.set_cons_succ, List.set_cons_zero])
      refine rel_endS ?_
      intro W hW hf
      try simp only [Act.put, List.setIfInBounds_toArray, List.set_cons_succ, List.set_cons_zero]
      have HW := Lib.hid hW
      clear hW hf
      go_wp2_with fail
      go_ret
      exact ⟨ret_bool (by rw [HZ.out]; simp only [Int.natCast_add]; rfl), HW.out⟩
end Go.Proofs.Ytdmodhcbcpmadaa
end

section
set_option linter.unusedSimpArgs false
set_option linter.unusedVariables false
namespace Go.Proofs.Ytdmodhcbcpmadaa
open Go.RowKit

/-- a disk that has nothing but a log's file. -/
structure OneF (d : Dk) (n : Nat) (b : List UInt8) : Prop where
  size : d.size = n
  left : d.left = -1
  fs : (d.fs = [] ∧ b = []) ∨ d.fs = [([108], ⟨b, b.length, true⟩)]
theorem OneF.empty (n : Nat) : OneF (emptyDk n) n [] := ⟨rfl, rfl, .inl ⟨rfl, rfl⟩⟩
theorem lopen_empty (n res : Nat) (h1 : 1 ≤ res) (h2 : res ≤ 67108864) : lopen (emptyDk n) [108] res = ⟨emptyDk n, some ⟨[108], res, 0, 0, false⟩, [], 0⟩ := by
  unfold lopen
  rw [if_neg (by rintro (h | h | h); exact absurd h (by decide); omega; omega)]
  rw [if_neg (show ¬ 0 < (emptyDk n).loose [108] from by show ¬ 0 < 0; decide)]
  unfold lopen2
  rw [if_neg (fun h => h rfl)]
  show (if (0 : Nat) = 2 then _ else _) = _
  rw [if_neg (by decide)]
  unfold lopen3
  show (if (0 : Nat) ≠ 0 then _ else _) = _
  rw [if_neg (fun h => h rfl)]
  show (if (res : Int) < ((0 : Nat) : Int) then _ else _) = _
  rw [if_neg (by omega)]
  rfl
theorem OneF.used {d : Dk} {n : Nat} {b : List UInt8} (h : OneF d n b) : d.used = b.length := by
  unfold Dk.used
  rcases h.fs with ⟨h1, h2⟩ | h1
  · rw [h1, h2]; rfl
  · rw [h1]; simp [total, flen]
theorem OneF.file {d : Dk} {n : Nat} {b : List UInt8} (h : OneF d n b) : (d.file [108]).b = b := by
  unfold Dk.file
  rcases h.fs with ⟨h1, h2⟩ | h1
  · rw [h1, h2]; rfl
  · rw [h1]; rfl
theorem OneF.append {d : Dk} {n : Nat} {b f : List UInt8} (h : OneF d n b) (hn : b.length + f.length ≤ n) : ∃ s t, d.append [108] f = (⟨n, [([108], ⟨b ++ f, s, t⟩)], -1, d.writes + 1⟩, 0) := by
  have hu := h.used
  obtain ⟨h1, h2, h3⟩ := h
  have hw : ∀ fs, d.wr fs = (⟨n, fs, -1, d.writes + 1⟩, 0) := fun fs => by unfold Dk.wr; rw [if_neg (by omega)]; unfold Dk.tick; rw [h1, h2]; rfl
  unfold Dk.append
  rw [if_neg (by decide), if_neg (by rw [hu, h1]; rintro (h | h); rcases h3 with ⟨h4, h5⟩ | h4; rw [h4] at h; exact absurd h.2 (by decide); rw [h4] at h; exact absurd h.2 (by simp); omega), hw]
  rcases h3 with ⟨h4, h5⟩ | h4
  · subst h5
    refine ⟨0, false, ?_⟩
    unfold Dk.file; rw [h4]; rfl
  · refine ⟨b.length, true, ?_⟩
    unfold Dk.file; rw [h4]; rfl
theorem commit_one {d : Dk} {n : Nat} {b rec : List UInt8} {L : Lg} (h : OneF d n b) (hn : L.name = [108]) (hb : L.broken = false) (hs : L.size = b.length) (hr : L.reserve ≤ n) (hl : rec.length ≤ 65536) :
    (L.reserve < b.length + (rec.length + 12) ∧ lcommit L d rec = (L, d, 12)) ∨
    (b.length + (rec.length + 12) ≤ L.reserve ∧ ∃ d', lcommit L d rec = (⟨[108], L.reserve, L.n + 1, (b ++ frameL rec).length, false⟩, d', 0) ∧ OneF d' n (b ++ frameL rec) ∧ d'.writes = d.writes + 2) := by
  unfold lcommit
  rw [if_neg (by rw [hb]; decide), if_neg (by omega), hs]
  by_cases hq : L.reserve < b.length + (rec.length + 12)
  · exact .inl ⟨hq, by rw [if_pos hq]⟩
  · refine .inr ⟨by omega, ?_⟩
    rw [if_neg hq, hn]
    obtain ⟨s, t, ha⟩ := h.append (f := frameL rec) (by rw [frame_length]; omega)
    rw [ha]
    refine ⟨⟨n, [([108], ⟨b ++ frameL rec, (b ++ frameL rec).length, true⟩)], -1, d.writes + 2⟩, ?_, ⟨rfl, rfl, .inr rfl⟩, rfl⟩
    unfold lcommit2
    rw [if_neg (fun h => h rfl)]
    have hsy : (Dk.mk n [([108], ⟨b ++ frameL rec, s, t⟩)] (-1) (d.writes + 1)).sync [108] = (⟨n, [([108], ⟨b ++ frameL rec, (b ++ frameL rec).length, true⟩)], -1, d.writes + 2⟩, 0) := rfl
    show lcommit3 L ((Dk.mk n [([108], ⟨b ++ frameL rec, s, t⟩)] (-1) (d.writes + 1)).sync L.name) (rec.length + 12) = _
    rw [hn, hsy]
    unfold lcommit3
    rw [if_neg (fun h => h rfl), hn, hb, hs, List.length_append, frame_length]
end Go.Proofs.Ytdmodhcbcpmadaa
end

section
set_option linter.unusedSimpArgs false
set_option linter.unusedVariables false
namespace Go.Proofs.Ytdmodhcbcpmadaa
open Go.RowKit

theorem OneF.lopen {d : Dk} {n : Nat} (h : OneF d n []) (h0 : d.fs = []) : d = ⟨n, [], -1, d.writes⟩ := by
  obtain ⟨a, b, c, e⟩ := d
  have h1 := h.size; have h2 := h.left
  simp only [] at h0 h1 h2
  rw [h0, h1, h2]
/-- a log alone on its disk, all of it new since w0. -/
structure S21 (w0 w : World) (p m q n : Nat) (d : Dk) (b : List UInt8) (L : Lg) : Prop where
  disk : DiskAt w p m d
  one : OneF d n b
  log : LogAt w q p L
  ok : L.Ok
  name : L.name = [108]
  fine : L.broken = false
  size : L.size = b.length
  below : Below w0.heap.size w0 w
  new : w0.heap.size ≤ p ∧ w0.heap.size ≤ m ∧ w0.heap.size ≤ q
theorem below_bw {w0 w w' : World} {S : List Nat} (h : Below w0.heap.size w0 w) (hb : Bw w w' S) (hs : ∀ k ∈ S, w0.heap.size ≤ k) : Below w0.heap.size w0 w' :=
  ⟨hb.os.trans h.os, hb.tape.trans h.tape, hb.output.trans h.output, Nat.le_trans h.size hb.size, fun k hk => (hb.block k (Nat.lt_of_lt_of_le hk h.size) (fun h4 => by have := hs k h4; omega)).trans (h.block k hk)⟩
theorem S21.after {w0 w w' : World} {p m q n : Nat} {d : Dk} {b : List UInt8} {L : Lg} (h : S21 w0 w p m q n d b L) (hb : Below w.heap.size w w') : S21 w0 w' p m q n d b L :=
  ⟨h.disk.below hb, h.one, (hb.block _ h.log.lt).trans h.log, h.ok, h.name, h.fine, h.size, h.below.trans (hb.mono h.below.size), h.new⟩
theorem S21.commit {w0 w : World} {p m q n : Nat} {d : Dk} {b : List UInt8} {L : Lg} (h : S21 w0 w p m q n d b L) (hr : L.reserve ≤ n) (hw : d.writes < 10000000000) (rec : List UInt8) (hl : rec.length ≤ 65536) (k : Nat) (hk : k = rec.length) (C : Option Addr) (capb : Nat) (hC : Bs w w.heap.size C rec) (hC0 : C = none → rec = []) :
    Calls Try.prog 39 #[.pointer (some ⟨q, 0, none⟩), .slice C k capb] w fun e w' => Bw w w' [p, m, q] ∧
      ((L.reserve < b.length + (k + 12) ∧ e = .returned (.int .i64 12) ∧ S21 w0 w' p m q n d b L) ∨
       (b.length + (k + 12) ≤ L.reserve ∧ e = .returned (.int .i64 0) ∧ ∃ d', S21 w0 w' p m q n d' (b ++ frameL rec) ⟨[108], L.reserve, L.n + 1, (b ++ frameL rec).length, false⟩ ∧ d'.writes = d.writes + 2)) := by
  refine (commit_at h.disk h.log h.ok (by omega) rec k hk C capb hC hC0).mono ?_
  rintro e w' ⟨rfl, h1, h2, h3⟩
  subst hk
  have hbe := below_bw h.below h3 (by simp [h.new])
  refine ⟨h3, ?_⟩
  rcases commit_one (rec := rec) h.one h.name h.fine h.size hr hl with ⟨h4, h5⟩ | ⟨h4, d', h5, h6, h7⟩
  · rw [h5] at h1 h2 ⊢
    exact .inl ⟨h4, rfl, ⟨h1, h.one, h2, h.ok, h.name, h.fine, h.size, hbe, h.new⟩⟩
  · rw [h5] at h1 h2 ⊢
    refine .inr ⟨h4, rfl, d', ⟨h1, h6, h2, ⟨h.ok.reserve, ?_, ?_, by show 1 ≤ 1000; decide⟩, rfl, rfl, rfl, hbe, h.new⟩, h7⟩
    · show (b ++ frameL rec).length ≤ L.reserve
      rw [List.length_append, frame_length]; exact h4
    · show L.n + 1 ≤ (b ++ frameL rec).length
      rw [List.length_append, frame_length, ← h.size]
      have := h.ok.n
      omega
/-- opened on a new disk. -/
theorem s21_open {w0 w w' : World} {p m n res : Nat} {e : Ending} (hn : n ≤ 67108864) (hr : 1 ≤ res) (hr2 : res ≤ 67108864) (hb : Below w0.heap.size w0 w) (hp : w0.heap.size ≤ p) (hm : w0.heap.size ≤ m) (h : OpenP w p m (lopen (emptyDk n) [108] res) e w') :
    ∃ q A c, e = .returned (.tuple #[.pointer (some ⟨q, 0, none⟩), .slice A 0 c, .int .i64 0]) ∧ S21 w0 w' p m q n (emptyDk n) [] ⟨[108], res, 0, 0, false⟩ := by
  rw [lopen_empty n res hr hr2] at h
  obtain ⟨hd2, hw2, pv, A, c, rfl, hls, hA0, hc, q, rfl, hl2, hq⟩ := h
  refine ⟨q, A, c, rfl, hd2, .empty n, hl2, ⟨hr2, Nat.zero_le _, Nat.le_refl _, by show 1 ≤ 1000; decide⟩, rfl, rfl, rfl, below_bw hb hw2.bw (by simp [hp, hm]), hp, hm, Nat.le_trans hb.size hq⟩
set_option maxRecDepth 100000 in
set_option maxHeartbeats 4000000 in
theorem awake21 (w : World) : Calls Try.prog 36 #[] w fun e w' => e = .returned (.bool true) ∧ Below w.heap.size w w' := by
  have HNW := Lib.hid (new_at 100 (by decide) (by decide) w)
  go_enter Try.func36, Try.ntmps36
  go_wp2_with fail
  refine HNW.out.mono ?_
  rintro e w1 ⟨rfl, hd1, hb1⟩
  have HB1 := Lib.hid hb1
  have HOP := Lib.hid (open_at hd1 (by decide) [108] (by decide) 40 (by decide))
  clear hd1 hb1 HNW
  go_wp2_with fail
  refine HOP.out.mono ?_
  intro e w2 h2
  obtain ⟨q, A, c, rfl, hs⟩ := s21_open (w0 := w) (n := 100) (res := 40) (by decide) (by decide) (by decide) HB1.out (Nat.le_succ _) (Nat.le_refl _) h2
  have HS := Lib.hid hs
  clear h2 hs HOP HB1
  go_wp2_with fail
  obtain ⟨hb3, hb4⟩ := boxes1 w2 (.cells #[.int .u8 1, .int .u8 2] 5)
  generalize w2.alloc (.cells #[.int .u8 1, .int .u8 2] 5) = w3 at *
  have HC := Lib.hid ((HS.out.after hb4).commit (by decide) (by decide) [1, 2] (by decide) 2 rfl (some ⟨w2.heap.size, 0, none⟩) 2 (Bs.blk (l := [1, 2]) hb3) (by intro h; cases h))
  clear HS hb3 hb4
  refine HC.out.mono ?_
  rintro e w4 ⟨hbw, ⟨h4, _, _⟩ | ⟨h4, rfl, d', h5, h6⟩⟩
  · exact absurd h4 (by decide)
  have HS4 := Lib.hid h5
  have HF1 := Lib.hid (lfits_at h5.log h5.ok 14)
  clear h5 h6 h4 hbw HC
  go_wp2_with fail
  refine HF1.out.mono ?_
  rintro e w5 ⟨rfl, hb5⟩
  have HS5 := Lib.hid (HS4.out.after hb5)
  have HF2 := Lib.hid (lfits_at HS5.out.log HS5.out.ok 15)
  clear hb5 HF1 HS4
  go_wp2_with fail
  refine HF2.out.mono ?_
  rintro e w6 ⟨rfl, hb6⟩
  have HS6 := Lib.hid (HS5.out.after hb6)
  have HL := Lib.hid (llen_at HS6.out.log)
  have HSZ := Lib.hid (lsize_at HS6.out.log)
  clear hb6 HF2 HS5
  go_wp2_with fail
  refine HL.out.mono ?_
  rintro e w7 ⟨rfl, rfl⟩
  go_wp2_with fail
  refine HSZ.out.mono ?_
  rintro e w7 ⟨rfl, rfl⟩
  go_wp2_with fail
  go_ret
  exact ⟨rfl, HS6.out.below⟩
end Go.Proofs.Ytdmodhcbcpmadaa
end
