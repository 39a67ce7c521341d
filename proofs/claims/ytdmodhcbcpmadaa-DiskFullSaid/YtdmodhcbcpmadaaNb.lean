/- logs in memory; Commit. -/
import Derived.Test.YtdmodhcbcpmadaaMt
import Derived.Test.YtdmodhcbcpmadaaMu
import Derived.Test.YtdmodhcbcpmadaaMv
import Derived.Test.YtdmodhcbcpmadaaMg4
set_option linter.unusedSimpArgs false
set_option linter.unusedVariables false
namespace Go.Proofs.Ytdmodhcbcpmadaa
open Go.RowKit

/-- a log. -/
structure Lg where
  name : Nm
  reserve : Nat
  n : Nat
  size : Nat
  broken : Bool
structure Lg.Ok (L : Lg) : Prop where
  reserve : L.reserve ≤ 67108864
  size : L.size ≤ L.reserve
  n : L.n ≤ L.size
  name : L.name.length ≤ 1000
def LogAt (w : World) (q p : Nat) (L : Lg) : Prop := w.heap[q]? = some (.cells #[.pointer (some ⟨p, 0, none⟩), .string (str L.name), .int .i64 L.reserve, .int .i64 L.n, .int .i64 L.size, .bool L.broken] 66 (0, 0))
theorem LogAt.lt {w : World} {q p : Nat} {L : Lg} (h : LogAt w q p L) : q < w.heap.size := lt_blk h
theorem LogAt.ne {w : World} {q p m : Nat} {L : Lg} {d : Dk} (h : LogAt w q p L) (hd : DiskAt w p m d) : q ≠ p ∧ q ≠ m := by
  constructor
  · rintro rfl
    have h1 := h.symm.trans hd.own
    simp at h1
  · exact hd.raw.no_map (cell_blk h 0)
/-- all but some blocks stay. -/
structure Bw (w w' : World) (S : List Nat) : Prop where
  os : w'.os = w.os
  tape : w'.tape = w.tape
  output : w'.output = w.output
  size : w.heap.size ≤ w'.heap.size
  block : ∀ k, k < w.heap.size → k ∉ S → w'.heap[k]? = w.heap[k]?
theorem Bw.refl (w : World) (S : List Nat) : Bw w w S := ⟨rfl, rfl, rfl, Nat.le_refl _, fun _ _ _ => rfl⟩
theorem Bw.trans {a b c : World} {S : List Nat} (h : Bw a b S) (h2 : Bw b c S) : Bw a c S :=
  ⟨h2.os.trans h.os, h2.tape.trans h.tape, h2.output.trans h.output, Nat.le_trans h.size h2.size, fun k hk h3 => (h2.block k (Nat.lt_of_lt_of_le hk h.size) h3).trans (h.block k hk h3)⟩
theorem Bw.of_below {w w' : World} {S : List Nat} (h : Below w.heap.size w w') : Bw w w' S := ⟨h.os, h.tape, h.output, h.size, fun k hk _ => h.block k hk⟩
theorem Bw.more {w w' : World} {S T : List Nat} (h : Bw w w' S) (hs : ∀ k ∈ S, k ∈ T) : Bw w w' T := ⟨h.os, h.tape, h.output, h.size, fun k hk h3 => h.block k hk fun h4 => h3 (hs k h4)⟩
theorem Dw.bw {w w' : World} {p m : Nat} (h : Dw w w' p m) : Bw w w' [p, m] := ⟨h.os, h.tape, h.output, h.size, fun k hk h3 => h.block k hk (by simp at h3; exact h3.1) (by simp at h3; exact h3.2)⟩
theorem Ow.bw {w w' : World} {p : Nat} (h : Ow w w' p) : Bw w w' [p] := ⟨h.os, h.tape, h.output, h.size, fun k hk h3 => h.block k hk (by simpa using h3)⟩
/-- but blocks that are new all stays. -/
theorem Bw.new {w w1 w' : World} {S T : List Nat} (h : Bw w w1 S) (h2 : Bw w1 w' T) (ht : ∀ k ∈ T, k ∈ S ∨ w.heap.size ≤ k) : Bw w w' S :=
  ⟨h2.os.trans h.os, h2.tape.trans h.tape, h2.output.trans h.output, Nat.le_trans h.size h2.size, fun k hk h3 => (h2.block k (Nat.lt_of_lt_of_le hk h.size) (fun h4 => by rcases ht k h4 with h5 | h5; exact h3 h5; omega)).trans (h.block k hk h3)⟩
theorem Bw.cell {w w' : World} {S : List Nat} (h : Bw w w' S) {b i : Nat} {v : Value} (hc : w.cell? ⟨b, i, none⟩ = some v) (hb : b ∉ S) : w'.cell? ⟨b, i, none⟩ = some v := (World.cell?_of_block (h.block b (cell_lt hc) hb)).trans hc
/-- a block that holds no byte. -/
def NoBytes (w : World) (k : Nat) : Prop := ∀ i c, w.cell? ⟨k, i, none⟩ ≠ some (.int .u8 c)
theorem Bw.bs {w w' : World} {S : List Nat} (h : Bw w w' S) (hs : ∀ k ∈ S, NoBytes w k) {B : Nat} (hB : B ≤ w.heap.size) {A : Option Addr} {l : List UInt8} (hl : Bs w B A l) : Bs w' B A l := fun j hj => by
  obtain ⟨b, off, h1, h2, h3⟩ := hl j hj
  exact ⟨b, off, h1, h2, h.cell h3 (fun h4 => hs b h4 _ _ h3)⟩
theorem DiskAt.noBytes {w : World} {p m : Nat} {d : Dk} (h : DiskAt w p m d) : ∀ k ∈ [p, m], NoBytes w k := fun k hk i c hc => by
  have := h.apart hc
  simp at hk
  rcases hk with rfl | rfl
  · exact this.1 rfl
  · exact this.2 rfl
theorem LogAt.noBytes {w : World} {q p : Nat} {L : Lg} (h : LogAt w q p L) : NoBytes w q := fun i c hc => by
  rw [cell_blk h] at hc
  match i, hc with
  | 0, hc => cases hc
  | 1, hc => cases hc
  | 2, hc => cases hc
  | 3, hc => cases hc
  | 4, hc => cases hc
  | 5, hc => cases hc
  | i + 6, hc => simp at hc
theorem DiskAt.set {w : World} {p m : Nat} {d : Dk} (h : DiskAt w p m d) {g i : Nat} {c : Value} (hc : w.cell? ⟨g, i, none⟩ = some c) (h8 : noU8 c = true) (hp : g ≠ p) (v : Value) : DiskAt (w.setCell ⟨g, i, none⟩ v) p m d := (h.raw.set hc h8 hp v).disk h.ok
def lcommit3 (L : Lg) (s : Dk × Nat) (n : Nat) : Lg × Dk × Nat := if s.2 ≠ 0 then (⟨L.name, L.reserve, L.n, L.size, true⟩, s.1, s.2) else (⟨L.name, L.reserve, L.n + 1, L.size + n, L.broken⟩, s.1, 0)
def lcommit2 (L : Lg) (s : Dk × Nat) (n : Nat) : Lg × Dk × Nat := if s.2 ≠ 0 then (⟨L.name, L.reserve, L.n, L.size, !decide (s.2 = 8)⟩, s.1, s.2) else lcommit3 L (s.1.sync L.name) n
def lcommit (L : Lg) (d : Dk) (b : List UInt8) : Lg × Dk × Nat :=
  if L.broken = true then (L, d, 14) else if 65536 < b.length then (L, d, 3) else if L.reserve < L.size + (b.length + 12) then (L, d, 12)
  else lcommit2 L (d.append L.name (frameL b)) (b.length + 12)
def CommitP (w : World) (q p m : Nat) (r : Lg × Dk × Nat) (e : Ending) (w' : World) : Prop := e = .returned (.int .i64 r.2.2) ∧ DiskAt w' p m r.2.1 ∧ LogAt w' q p r.1 ∧ Bw w w' [p, m, q]
set_option maxRecDepth 100000 in
set_option maxHeartbeats 2000000 in
theorem lnone_at {w : World} {q p : Nat} {L : Lg} (h : LogAt w q p L) : Calls Try.prog 72 #[.pointer (some ⟨q, 0, none⟩)] w fun e w' => e = .returned (.bool false) ∧ w' = w := by
  have c0 := cell_blk h 0
  simp only [List.getElem?_toArray, List.getElem?_cons_succ, List.getElem?_cons_zero] at c0
  go_enter Try.func72, Try.ntmps72
  go_wp2_with fail
  go_ret
  exact ⟨rfl, rfl⟩
set_option maxRecDepth 100000 in
set_option maxHeartbeats 4000000 in
theorem commit_at {w : World} {q p m : Nat} {L : Lg} {d : Dk} (h : DiskAt w p m d) (hl : LogAt w q p L) (hok : L.Ok) (hw : d.writes < 100000000000) (b : List UInt8) (n : Nat) (hn : n = b.length) (C : Option Addr) (capb : Nat) (hC : Bs w w.heap.size C b) (hC0 : C = none → b = []) :
    Calls Try.prog 39 #[.pointer (some ⟨q, 0, none⟩), .slice C n capb] w (CommitP w q p m (lcommit L d b)) := by
  have H := Lib.hid h; have HL := Lib.hid hl; have HN := Lib.hid hn; have HC := Lib.hid hC; have HC0 := Lib.hid hC0
  have hnm := hok.name
  have hrs := hok.reserve
  have hsz := hok.size
  have hnn := hok.n
  have HNE := Lib.hid (hl.ne h)
  have hc := fun i => cell_blk hl i
  have c0 := hc 0; have c1 := hc 1; have c2 := hc 2; have c3 := hc 3; have c4 := hc 4; have c5 := hc 5
  simp only [List.getElem?_toArray, List.getElem?_cons_succ, List.getElem?_cons_zero] at c0 c1 c2 c3 c4 c5
  clear h hl hn hC hC0 hc hok
  go_enter Try.func39, Try.ntmps39
  go_wp2_with fail
  refine (lnone_at HL.out).mono ?_
  rintro e w1 ⟨rfl, rfl⟩
  cases hb : L.broken with
  | true =>
    rw [hb] at c5
    have HE : Hid (lcommit L d b = (L, d, 14)) := Lib.hid (by unfold lcommit; rw [if_pos hb])
    clear hb
    go_wp2_with fail
    go_ret
    exact ⟨by rw [HE.out]; rfl, by rw [HE.out]; exact H.out, by rw [HE.out]; exact HL.out, .refl _ _⟩
  | false =>
    rw [hb] at c5
    have HB : Hid (¬ L.broken = true) := Lib.hid (by rw [hb]; decide)
    clear hb
    by_cases hlong : 65536 < n
    · have HE : Hid (lcommit L d b = (L, d, 3)) := Lib.hid (by unfold lcommit; rw [if_neg HB.out, if_pos (by rw [← HN.out]; exact hlong)])
      have HF := Lib.hid (frame_long n hlong C capb w1)
      go_wp2_with fail
      refine HF.out.mono ?_
      rintro e w2 ⟨rfl, rfl⟩
      go_wp2_with fail
      go_ret
      exact ⟨by rw [HE.out]; rfl, by rw [HE.out]; exact H.out, by rw [HE.out]; exact HL.out, .refl _ _⟩
    · have HLG : Hid (¬ 65536 < b.length) := Lib.hid (by rw [← HN.out]; exact hlong)
      have hF := frame_any b (by have := HLG.out; omega) C capb w1 HC.out HC0.out
      rw [← HN.out] at hF
      have HF := Lib.hid hF
      clear hF
      go_wp2_with fail
      refine HF.out.mono ?_
      rintro e w2 ⟨v, rfl, ho, hb2⟩
      obtain ⟨A2, cp, rfl, hrd, hA2, hcp⟩ := own_rd ho
      have HB2 := Lib.hid hb2; have HRD := Lib.hid hrd.bs; have HA2 := Lib.hid hA2
      have HL2 : Hid (LogAt w2 q p L) := Lib.hid ((hb2.block _ HL.out.lt).trans HL.out)
      have H2 := Lib.hid (H.out.below hb2)
      clear ho hb2 hrd hA2 hcp c0 c1 c2 c3 c4 c5
      have HCC : Hid (∀ W, Below w2.heap.size w2 W → W.cell? ⟨q, 0, none⟩ = some (.pointer (some ⟨p, 0, none⟩)) ∧ W.cell? ⟨q, 1, none⟩ = some (.string (str L.name)) ∧ W.cell? ⟨q, 2, none⟩ = some (.int .i64 L.reserve) ∧ W.cell? ⟨q, 4, none⟩ = some (.int .i64 L.size)) := Lib.hid fun W h => by
        have a := cell_blk ((h.block _ HL2.out.lt).trans HL2.out)
        exact ⟨a 0, a 1, a 2, a 4⟩
      have hwr : IntKind.i64.wrap ((L.reserve : Int) - (L.size : Int)) = (L.reserve : Int) - (L.size : Int) := wi64 _ (by omega) (by omega)
      generalize hk12 : n + 12 = n12 at *
      have HK12 := Lib.hid hk12
      have hn12 : n12 ≤ 65548 := by omega
      clear hk12
      go_upto_region 8 with (fail)
      by_cases hq : L.reserve < L.size + n12
      · have hq2 : (L.reserve : Int) - (L.size : Int) < n12 := by omega
        have HE : Hid (lcommit L d b = (L, d, 12)) := Lib.hid (by unfold lcommit; rw [if_neg HB.out, if_neg HLG.out, if_pos (by rw [← HN.out, HK12.out]; exact hq)])
        apply wp_region_relH (H := []) 12 [(Sum.inl _ : TT), (Sum.inl _ : TT), (Sum.inl _ : TT), (Sum.inl _ : TT), (Sum.inl _ : TT), (Sum.inl _ : TT), (Sum.inl _ : TT), (Sum.inl _ : TT), (Sum.inl _ : TT), (Sum.inl _ : TT), (Sum.inl _ : TT), (Sum.inl _ : TT)] (by kernel_rfl) (by kernel_rfl) (fun _ _ _ _ _ h => h) rfl
        simp only [List.take_succ_cons, List.take_zero, List.drop_succ_cons, List.drop_zero]
        iterate 12 (apply rel_isS; (intro W hW hf; obtain ⟨x1, x2, x3, x4⟩ := HCC.out W hW; go_simp; first | exact ⟨StayS.refl _ _, rfl⟩ | rfl); simp only [Act.put, List.setIfInBounds_toArray, List.set_cons_succ, List.set_cons_zero])
        refine rel_endS ?_
        intro W hW hf
        try simp only [Act.put, List.setIfInBounds_toArray, List.set_cons_succ, List.set_cons_zero]
        have H3 := Lib.hid (H2.out.below hW)
        have HL3 : Hid (LogAt W q p L) := Lib.hid ((hW.block _ HL2.out.lt).trans HL2.out)
        have HB3 := Lib.hid (HB2.out.trans (hW.mono HB2.out.size))
        clear hW hf
        go_wp2_with fail
        go_ret
        exact ⟨by rw [HE.out]; rfl, by rw [HE.out]; exact H3.out, by rw [HE.out]; exact HL3.out, .of_below HB3.out⟩
      · have hq2 : ¬ (L.reserve : Int) - (L.size : Int) < n12 := by omega
        have HQ : Hid (L.size + n12 ≤ L.reserve) := Lib.hid (by omega)
        have HE : Hid (lcommit L d b = lcommit2 L (d.append L.name (frameL b)) n12) := Lib.hid (by unfold lcommit; rw [if_neg HB.out, if_neg HLG.out, if_neg (by rw [← HN.out, HK12.out]; exact hq), ← HN.out, HK12.out])
        apply wp_region_relH (H := []) 12 [(Sum.inl _ : TT), (Sum.inl _ : TT), (Sum.inl _ : TT), (Sum.inl _ : TT), (Sum.inl _ : TT), (Sum.inl _ : TT), (Sum.inl _ : TT), (Sum.inl _ : TT), (Sum.inl _ : TT), (Sum.inl _ : TT), (Sum.inl _ : TT), (Sum.inl _ : TT)] (by kernel_rfl) (by kernel_rfl) (fun _ _ _ _ _ h => h) rfl
        simp only [List.take_succ_cons, List.take_zero, List.drop_succ_cons, List.drop_zero]
        iterate 12 (apply rel_isS; (intro W hW hf; obtain ⟨x1, x2, x3, x4⟩ := HCC.out W hW; go_simp; first | exact ⟨StayS.refl _ _, rfl⟩ | rfl); simp only [Act.put, List.setIfInBounds_toArray, List.set_cons_succ, List.set_cons_zero])
        refine rel_endS ?_
        intro W hW hf
        try simp only [Act.put, List.setIfInBounds_toArray, List.set_cons_succ, List.set_cons_zero]
        have H3 := Lib.hid (H2.out.below hW)
        have HL3 : Hid (LogAt W q p L) := Lib.hid ((hW.block _ HL2.out.lt).trans HL2.out)
        have HB3 := Lib.hid (HB2.out.trans (hW.mono HB2.out.size))
        have HRD3 := Lib.hid ((HRD.out.below hW).more hW.size)
        clear hW hf hq hq2 hwr HCC HRD H2 HL2 HB2 H HC HC0
        have HCC : Hid (∀ W2, Below W.heap.size W W2 → W2.cell? ⟨q, 0, none⟩ = some (.pointer (some ⟨p, 0, none⟩)) ∧ W2.cell? ⟨q, 1, none⟩ = some (.string (str L.name))) := Lib.hid fun W2 h => by
          have a := cell_blk ((h.block _ HL3.out.lt).trans HL3.out)
          exact ⟨a 0, a 1⟩
        go_upto_region 10 with (fail)
        rename_i W0 _
        apply wp_region_relH (H := []) 9 [(Sum.inl _ : TT), (Sum.inl _ : TT), (Sum.inl _ : TT), (Sum.inl _ : TT), (Sum.inl _ : TT), (Sum.inl _ : TT), (Sum.inl _ : TT), (Sum.inl _ : TT), (Sum.inl _ : TT)] (by kernel_rfl) (by kernel_rfl) (fun _ _ _ _ _ h => h) rfl
        simp only [List.take_succ_cons, List.take_zero, List.drop_succ_cons, List.drop_zero]
        iterate 9 (apply rel_isS; (intro W hW hf; obtain ⟨x1, x2⟩ := HCC.out W hW; go_simp; first | exact ⟨StayS.refl _ _, rfl⟩ | rfl); simp only [Act.put, List.setIfInBounds_toArray, List.set_cons_succ, List.set_cons_zero])
        refine rel_endS ?_
        intro W hW hf
        try simp only [Act.put, List.setIfInBounds_toArray, List.set_cons_succ, List.set_cons_zero]
        have H4 := Lib.hid (H3.out.below hW)
        have HL4 : Hid (LogAt W q p L) := Lib.hid ((hW.block _ HL3.out.lt).trans HL3.out)
        have HB4 := Lib.hid (HB3.out.trans (hW.mono HB3.out.size))
        have HRD4 := Lib.hid ((HRD3.out.below hW).more hW.size)
        clear hW hf HCC HRD3 H3 HL3 HB3
        have HFL : Hid (n12 = (frameL b).length) := Lib.hid (by rw [frame_length, ← HN.out, HK12.out])
        have HAP := Lib.hid (append_at H4.out (by omega) L.name (by omega) (frameL b) n12 HFL.out (by omega) A2 cp HRD4.out (fun h => List.eq_nil_of_length_eq_zero (by rw [← HFL.out]; exact HA2.out h)))
        go_wp2_with fail
        refine HAP.out.mono ?_
        rintro e w5 ⟨rfl, h5, h6⟩
        have H5 := Lib.hid h5
        have HL5 : Hid (LogAt w5 q p L) := Lib.hid ((h6.block _ HL4.out.lt HNE.out.1 HNE.out.2).trans HL4.out)
        have HB5 : Hid (Bw w1 w5 [p, m, q]) := Lib.hid ((Bw.of_below HB4.out).trans (h6.bw.more (by simp)))
        have hwr5 : (d.append L.name (frameL b)).1.writes ≤ d.writes + 1 := append_writes _ _ _
        clear h5 h6 HAP HRD4 H4 HL4 HB4
        generalize d.append L.name (frameL b) = s at *
        obtain ⟨d5, e5⟩ := s
        simp only [] at hwr5
        have HD5 : Hid (DiskAt w5 p m d5) := Lib.hid H5.out
        clear H5
        by_cases h0 : e5 = 0
        · subst h0
          have HE2 : Hid (lcommit2 L (d5, 0) n12 = lcommit3 L (d5.sync L.name) n12) := Lib.hid (by unfold lcommit2; rw [if_neg (fun h => h rfl)])
          have HCC : Hid (∀ W2, Below w5.heap.size w5 W2 → W2.cell? ⟨q, 0, none⟩ = some (.pointer (some ⟨p, 0, none⟩)) ∧ W2.cell? ⟨q, 1, none⟩ = some (.string (str L.name))) := Lib.hid fun W2 h => by
            have a := cell_blk ((h.block _ HL5.out.lt).trans HL5.out)
            exact ⟨a 0, a 1⟩
          go_upto_region 14 with (fail)
          apply wp_region_relH (H := []) 8 [(Sum.inl _ : TT), (Sum.inl _ : TT), (Sum.inl _ : TT), (Sum.inl _ : TT), (Sum.inl _ : TT), (Sum.inl _ : TT), (Sum.inl _ : TT), (Sum.inl _ : TT)] (by kernel_rfl) (by kernel_rfl) (fun _ _ _ _ _ h => h) rfl
          simp only [List.take_succ_cons, List.take_zero, List.drop_succ_cons, List.drop_zero]
          iterate 8 (apply rel_isS; (intro W hW hf; obtain ⟨x1, x2⟩ := HCC.out W hW; go_simp; first | exact ⟨StayS.refl _ _, rfl⟩ | rfl); simp only [Act.put, List.setIfInBounds_toArray, List.set_cons_succ, List.set_cons_zero])
          refine rel_endS ?_
          intro W hW hf
          try simp only [Act.put, List.setIfInBounds_toArray, List.set_cons_succ, List.set_cons_zero]
          have H6 := Lib.hid (HD5.out.below hW)
          have HL6 : Hid (LogAt W q p L) := Lib.hid ((hW.block _ HL5.out.lt).trans HL5.out)
          have HB6 := Lib.hid (HB5.out.trans (.of_below hW))
          clear hW hf HCC HD5 HL5 HB5
          have HSY := Lib.hid (sync_at H6.out (by omega) L.name (by omega))
          go_wp2_with fail
          refine HSY.out.mono ?_
          rintro e w7 ⟨rfl, h7, h8⟩
          have HL7 : Hid (LogAt w7 q p L) := Lib.hid ((h8.block _ HL6.out.lt HNE.out.1 HNE.out.2).trans HL6.out)
          have HB7 : Hid (Bw w1 w7 [p, m, q]) := Lib.hid (HB6.out.trans (h8.bw.more (by simp)))
          have H7 := Lib.hid h7
          clear h7 h8 HSY H6 HL6 HB6
          generalize d5.sync L.name = s at *
          obtain ⟨d7, e7⟩ := s
          have HD7 : Hid (DiskAt w7 p m d7) := Lib.hid H7.out
          clear H7
          have hc := fun i => cell_blk HL7.out i
          have c3 := hc 3; have c4 := hc 4; have c5 := hc 5
          simp only [List.getElem?_toArray, List.getElem?_cons_succ, List.getElem?_cons_zero] at c3 c4 c5
          have fz := fun i => free_blk HL7.out i
          clear hc
          by_cases h0 : e7 = 0
          · subst h0
            have HE3 : Hid (lcommit L d b = (⟨L.name, L.reserve, L.n + 1, L.size + n12, L.broken⟩, d7, 0)) := Lib.hid (by rw [HE.out, HE2.out]; unfold lcommit3; rw [if_neg (fun h => h rfl)])
            have hq4 := HQ.out
            have c3' := c3; have c4' := c4
            go_wp2_with fail
            go_ret
            refine ⟨by rw [HE3.out]; rfl, by rw [HE3.out]; exact (HD7.out.set c3' rfl HNE.out.1 _).set ((cell_set (by simp)).trans c4') rfl HNE.out.1 _, ?_, HB7.out.trans ((((Ow.refl w7 q).set 3 _).set 4 _).bw.more (by simp))⟩
            rw [HE3.out]
            unfold LogAt
            simp only [Int.natCast_add]
            exact set_blk (set_blk HL7.out 3 _) 4 _
          · have h1 : ((e7 : Int) != 0) = true := by simpa using h0
            have HE3 : Hid (lcommit L d b = (⟨L.name, L.reserve, L.n, L.size, true⟩, d7, e7)) := Lib.hid (by rw [HE.out, HE2.out]; unfold lcommit3; rw [if_pos h0])
            have c5' := c5
            clear h0
            go_wp2_with fail
            go_ret
            exact ⟨by rw [HE3.out]; rfl, by rw [HE3.out]; exact HD7.out.set c5' rfl HNE.out.1 _, by rw [HE3.out]; exact set_blk HL7.out 5 (.bool true), HB7.out.trans (((Ow.refl w7 q).set 5 (.bool true)).bw.more (by simp))⟩
        · have h1 : ((e5 : Int) != 0) = true := by simpa using h0
          have HE3 : Hid (lcommit L d b = (⟨L.name, L.reserve, L.n, L.size, !decide (e5 = 8)⟩, d5, e5)) := Lib.hid (by rw [HE.out]; unfold lcommit2; rw [if_pos h0])
          have h2 : ((e5 : Int) != 8) = !decide (e5 = 8) := by by_cases h : e5 = 8 <;> simp [h] <;> omega
          have hc := fun i => cell_blk HL5.out i
          have c5 := hc 5
          simp only [List.getElem?_toArray, List.getElem?_cons_succ, List.getElem?_cons_zero] at c5
          have fz := fun i => free_blk HL5.out i
          have c5' := c5
          clear h0 hc
          go_wp2_with fail
          go_ret
          exact ⟨by rw [HE3.out]; rfl, by rw [HE3.out]; exact HD5.out.set c5' rfl HNE.out.1 _, by rw [HE3.out]; exact set_blk HL5.out 5 (.bool (!decide (e5 = 8))), HB5.out.trans (((Ow.refl w5 q).set 5 (.bool (!decide (e5 = 8)))).bw.more (by simp))⟩
end Go.Proofs.Ytdmodhcbcpmadaa
