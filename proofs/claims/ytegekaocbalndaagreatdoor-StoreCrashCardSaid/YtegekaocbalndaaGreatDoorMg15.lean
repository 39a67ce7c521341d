/- several texts in one: logs in memory; Commit., log.named., log.Open (printed by gen_open.py)., what a log tells: Len, Size, Broken, Fits., a log alone on its disk: plain; the chapter's example. -/
import Derived.Test.YtegekaocbalndaaGreatDoorMg9
import Derived.Test.YtegekaocbalndaaGreatDoorMv
import Derived.Test.YtegekaocbalndaaGreatDoorMg4
import Derived.Test.YtegekaocbalndaaGreatDoorMg5
import Derived.Test.YtegekaocbalndaaGreatDoorMg18
section
set_option linter.unusedSimpArgs false
set_option linter.unusedVariables false
namespace Go.Proofs.YtegekaocbalndaaGreatDoor
open Go.RowKit

/-- a log. -/
structure Lg where
  name : Nm
  reserve : Nat
  n : Nat
  size : Nat
  broken : Bool
structure Lg.Ok (L : Lg) : Prop where
  reserve : L.reserve ≤ 67108864
  size : L.size ≤ L.reserve
  n : L.n ≤ L.size
  name : L.name.length ≤ 1000
def LogAt (w : World) (q p : Nat) (L : Lg) : Prop := w.heap[q]? = some (.cells #[.pointer (some ⟨p, 0, none⟩), .string (str L.name), .int .i64 L.reserve, .int .i64 L.n, .int .i64 L.size, .bool L.broken] 96 (0, 0))
theorem LogAt.lt {w : World} {q p : Nat} {L : Lg} (h : LogAt w q p L) : q < w.heap.size := lt_blk h
theorem LogAt.ne {w : World} {q p m : Nat} {L : Lg} {d : Dk} (h : LogAt w q p L) (hd : DiskAt w p m d) : q ≠ p ∧ q ≠ m := by
  constructor
  · rintro rfl
    have h1 := h.symm.trans hd.own
    simp at h1
  · exact hd.raw.no_map (cell_blk h 0)
/-- all but some blocks stay. -/
structure Bw (w w' : World) (S : List Nat) : Prop where
  os : w'.os = w.os
  tape : w'.tape = w.tape
  output : w'.output = w.output
  size : w.heap.size ≤ w'.heap.size
  block : ∀ k, k < w.heap.size → k ∉ S → w'.heap[k]? = w.heap[k]?
theorem Bw.refl (w : World) (S : List Nat) : Bw w w S := ⟨rfl, rfl, rfl, Nat.le_refl _, fun _ _ _ => rfl⟩
theorem Bw.trans {a b c : World} {S : List Nat} (h : Bw a b S) (h2 : Bw b c S) : Bw a c S :=
  ⟨h2.os.trans h.os, h2.tape.trans h.tape, h2.output.trans h.output, Nat.le_trans h.size h2.size, fun k hk h3 => (h2.block k (Nat.lt_of_lt_of_le hk h.size) h3).trans (h.block k hk h3)⟩
theorem Bw.of_below {w w' : World} {S : List Nat} (h : Below w.heap.size w w') : Bw w w' S := ⟨h.os, h.tape, h.output, h.size, fun k hk _ => h.block k hk⟩
theorem Bw.more {w w' : World} {S T : List Nat} (h : Bw w w' S) (hs : ∀ k ∈ S, k ∈ T) : Bw w w' T := ⟨h.os, h.tape, h.output, h.size, fun k hk h3 => h.block k hk fun h4 => h3 (hs k h4)⟩
theorem Dw.bw {w w' : World} {p m : Nat} (h : Dw w w' p m) : Bw w w' [p, m] := ⟨h.os, h.tape, h.output, h.size, fun k hk h3 => h.block k hk (by simp at h3; exact h3.1) (by simp at h3; exact h3.2)⟩
theorem Ow.bw {w w' : World} {p : Nat} (h : Ow w w' p) : Bw w w' [p] := ⟨h.os, h.tape, h.output, h.size, fun k hk h3 => h.block k hk (by simpa using h3)⟩
/-- but blocks that are new all stays. -/
theorem Bw.new {w w1 w' : World} {S T : List Nat} (h : Bw w w1 S) (h2 : Bw w1 w' T) (ht : ∀ k ∈ T, k ∈ S ∨ w.heap.size ≤ k) : Bw w w' S :=
  ⟨h2.os.trans h.os, h2.tape.trans h.tape, h2.output.trans h.output, Nat.le_trans h.size h2.size, fun k hk h3 => (h2.block k (Nat.lt_of_lt_of_le hk h.size) (fun h4 => by rcases ht k h4 with h5 | h5; exact h3 h5; omega)).trans (h.block k hk h3)⟩
theorem Bw.cell {w w' : World} {S : List Nat} (h : Bw w w' S) {b i : Nat} {v : Value} (hc : w.cell? ⟨b, i, none⟩ = some v) (hb : b ∉ S) : w'.cell? ⟨b, i, none⟩ = some v := (World.cell?_of_block (h.block b (cell_lt hc) hb)).trans hc
/-- a block that holds no byte. -/
def NoBytes (w : World) (k : Nat) : Prop := ∀ i c, w.cell? ⟨k, i, none⟩ ≠ some (.int .u8 c)
theorem Bw.bs {w w' : World} {S : List Nat} (h : Bw w w' S) (hs : ∀ k ∈ S, NoBytes w k) {B : Nat} (hB : B ≤ w.heap.size) {A : Option Addr} {l : List UInt8} (hl : Bs w B A l) : Bs w' B A l := fun j hj => by
  obtain ⟨b, off, h1, h2, h3⟩ := hl j hj
  exact ⟨b, off, h1, h2, h.cell h3 (fun h4 => hs b h4 _ _ h3)⟩
theorem DiskAt.noBytes {w : World} {p m : Nat} {d : Dk} (h : DiskAt w p m d) : ∀ k ∈ [p, m], NoBytes w k := fun k hk i c hc => by
  have := h.apart hc
  simp at hk
  rcases hk with rfl | rfl
  · exact this.1 rfl
  · exact this.2 rfl
theorem LogAt.noBytes {w : World} {q p : Nat} {L : Lg} (h : LogAt w q p L) : NoBytes w q := fun i c hc => by
  rw [cell_blk h] at hc
  match i, hc with
  | 0, hc => cases hc
  | 1, hc => cases hc
  | 2, hc => cases hc
  | 3, hc => cases hc
  | 4, hc => cases hc
  | 5, hc => cases hc
  | i + 6, hc => simp at hc
theorem DiskAt.set {w : World} {p m : Nat} {d : Dk} (h : DiskAt w p m d) {g i : Nat} {c : Value} (hc : w.cell? ⟨g, i, none⟩ = some c) (h8 : noU8 c = true) (hp : g ≠ p) (v : Value) : DiskAt (w.setCell ⟨g, i, none⟩ v) p m d := (h.raw.set hc h8 hp v).disk h.ok
def lcommit3 (L : Lg) (s : Dk × Nat) (n : Nat) : Lg × Dk × Nat := if s.2 ≠ 0 then (⟨L.name, L.reserve, L.n, L.size, true⟩, s.1, s.2) else (⟨L.name, L.reserve, L.n + 1, L.size + n, L.broken⟩, s.1, 0)
def lcommit2 (L : Lg) (s : Dk × Nat) (n : Nat) : Lg × Dk × Nat := if s.2 ≠ 0 then (⟨L.name, L.reserve, L.n, L.size, !decide (s.2 = 8)⟩, s.1, s.2) else lcommit3 L (s.1.sync L.name) n
def lcommit (L : Lg) (d : Dk) (b : List UInt8) : Lg × Dk × Nat :=
  if L.broken = true then (L, d, 14) else if 65536 < b.length then (L, d, 3) else if L.reserve < L.size + (b.length + 12) then (L, d, 12)
  else lcommit2 L (d.append L.name (frameL b)) (b.length + 12)
def CommitP (w : World) (q p m : Nat) (r : Lg × Dk × Nat) (e : Ending) (w' : World) : Prop := e = .returned (.int .i64 r.2.2) ∧ DiskAt w' p m r.2.1 ∧ LogAt w' q p r.1 ∧ Bw w w' [p, m, q]
set_option maxRecDepth 100000 in
set_option maxHeartbeats 2000000 in
theorem lnone_at {w : World} {q p : Nat} {L : Lg} (h : LogAt w q p L) : Calls Tryz.prog 64 #[.pointer (some ⟨q, 0, none⟩)] w fun e w' => e = .returned (.bool false) ∧ w' = w := by
  have c0 := cell_blk h 0
  simp only [List.getElem?_toArray, List.getElem?_cons_succ, List.getElem?_cons_zero] at c0
  go_enter Tryz.func64, Tryz.ntmps64
  go_wp2_with fail
  go_ret
  exact ⟨rfl, rfl⟩
set_option maxRecDepth 100000 in
set_option maxHeartbeats 4000000 in
theorem commit_at {w : World} {q p m : Nat} {L : Lg} {d : Dk} (h : DiskAt w p m d) (hl : LogAt w q p L) (hok : L.Ok) (hw : d.writes < 100000000000) (b : List UInt8) (n : Nat) (hn : n = b.length) (C : Option Addr) (capb : Nat) (hC : Bs w w.heap.size C b) (hC0 : C = none → b = []) :
    Calls Tryz.prog 48 #[.pointer (some ⟨q, 0, none⟩), .slice C n capb] w (CommitP w q p m (lcommit L d b)) := by
  have H := Lib.hid h; have HL := Lib.hid hl; have HN := Lib.hid hn; have HC := Lib.hid hC; have HC0 := Lib.hid hC0
  have hnm := hok.name
  have hrs := hok.reserve
  have hsz := hok.size
  have hnn := hok.n
  have HNE := Lib.hid (hl.ne h)
  have hc := fun i => cell_blk hl i
  have c0 := hc 0; have c1 := hc 1; have c2 := hc 2; have c3 := hc 3; have c4 := hc 4; have c5 := hc 5
  simp only [List.getElem?_toArray, List.getElem?_cons_succ, List.getElem?_cons_zero] at c0 c1 c2 c3 c4 c5
  clear h hl hn hC hC0 hc hok
  go_enter Tryz.func48, Tryz.ntmps48
  go_wp2_with fail
  refine (lnone_at HL.out).mono ?_
  rintro e w1 ⟨rfl, rfl⟩
  cases hb : L.broken with
  | true =>
    rw [hb] at c5
    have HE : Hid (lcommit L d b = (L, d, 14)) := Lib.hid (by unfold lcommit; rw [if_pos hb])
    clear hb
    go_wp2_with fail
    go_ret
    exact ⟨by rw [HE.out]; rfl, by rw [HE.out]; exact H.out, by rw [HE.out]; exact HL.out, .refl _ _⟩
  | false =>
    rw [hb] at c5
    have HB : Hid (¬ L.broken = true) := Lib.hid (by rw [hb]; decide)
    clear hb
    by_cases hlong : 65536 < n
    · have HE : Hid (lcommit L d b = (L, d, 3)) := Lib.hid (by unfold lcommit; rw [if_neg HB.out, if_pos (by rw [← HN.out]; exact hlong)])
      have HF := Lib.hid (frame_long n hlong C capb w1)
      go_wp2_with fail
      refine HF.out.mono ?_
      rintro e w2 ⟨rfl, rfl⟩
      go_wp2_with fail
      go_ret
      exact ⟨by rw [HE.out]; rfl, by rw [HE.out]; exact H.out, by rw [HE.out]; exact HL.out, .refl _ _⟩
    · have HLG : Hid (¬ 65536 < b.length) := Lib.hid (by rw [← HN.out]; exact hlong)
      have hF := frame_any b (by have := HLG.out; omega) C capb w1 HC.out HC0.out
      rw [← HN.out] at hF
      have HF := Lib.hid hF
      clear hF
      go_wp2_with fail
      refine HF.out.mono ?_
      rintro e w2 ⟨v, rfl, ho, hb2⟩
      obtain ⟨A2, cp, rfl, hrd, hA2, hcp⟩ := own_rd ho
      have HB2 := Lib.hid hb2; have HRD := Lib.hid hrd.bs; have HA2 := Lib.hid hA2
      have HL2 : Hid (LogAt w2 q p L) := Lib.hid ((hb2.block _ HL.out.lt).trans HL.out)
      have H2 := Lib.hid (H.out.below hb2)
      clear ho hb2 hrd hA2 hcp c0 c1 c2 c3 c4 c5
      have HCC : Hid (∀ W, Below w2.heap.size w2 W → W.cell? ⟨q, 0, none⟩ = some (.pointer (some ⟨p, 0, none⟩)) ∧ W.cell? ⟨q, 1, none⟩ = some (.string (str L.name)) ∧ W.cell? ⟨q, 2, none⟩ = some (.int .i64 L.reserve) ∧ W.cell? ⟨q, 4, none⟩ = some (.int .i64 L.size)) := Lib.hid fun W h => by
        have a := cell_blk ((h.block _ HL2.out.lt).trans HL2.out)
        exact ⟨a 0, a 1, a 2, a 4⟩
      have hwr : IntKind.i64.wrap ((L.reserve : Int) - (L.size : Int)) = (L.reserve : Int) - (L.size : Int) := wi64 _ (by omega) (by omega)
      generalize hk12 : n + 12 = n12 at *
      have HK12 := Lib.hid hk12
      have hn12 : n12 ≤ 65548 := by omega
      clear hk12
      go_upto_region 8 with (fail)
      by_cases hq : L.reserve < L.size + n12
      · have hq2 : (L.reserve : Int) - (L.size : Int) < n12 := by omega
        have HE : Hid (lcommit L d b = (L, d, 12)) := Lib.hid (by unfold lcommit; rw [if_neg HB.out, if_neg HLG.out, if_pos (by rw [← HN.out, HK12.out]; exact hq)])
        apply wp_region_relH (H := []) 12 [(Sum.inl _ : TT), (Sum.inl _ : TT), (Sum.inl _ : TT), (Sum.inl _ : TT), (Sum.inl _ : TT), (Sum.inl _ : TT), (Sum.inl _ : TT), (Sum.inl _ : TT), (Sum.inl _ : TT), (Sum.inl _ : TT), (Sum.inl _ : TT), (Sum.inl _ : TT)] (by kernel_rfl) (by kernel_rfl) (fun _ _ _ _ _ h => h) rfl
        simp only [List.take_succ_cons, List.take_zero, List.drop_succ_cons, List.drop_zero]
        iterate 12 (apply rel_isS; (intro W hW hf; obtain ⟨x1, x2, x3, x4⟩ := HCC.out W hW; go_simp; first | exact ⟨StayS.refl _ _, rfl⟩ | rfl); simp only [Act.put, List.setIfInBounds_toArray, List.set_cons_succ, List.set_cons_zero])
        refine rel_endS ?_
        intro W hW hf
        try simp only [Act.put, List.setIfInBounds_toArray, List.set_cons_succ, List.set_cons_zero]
        have H3 := Lib.hid (H2.out.below hW)
        have HL3 : Hid (LogAt W q p L) := Lib.hid ((hW.block _ HL2.out.lt).trans HL2.out)
        have HB3 := Lib.hid (HB2.out.trans (hW.mono HB2.out.size))
        clear hW hf
        go_wp2_with fail
        go_ret
        exact ⟨by rw [HE.out]; rfl, by rw [HE.out]; exact H3.out, by rw [HE.out]; exact HL3.out, .of_below HB3.out⟩
      · have hq2 : ¬ (L.reserve : Int) - (L.size : Int) < n12 := by omega
        have HQ : Hid (L.size + n12 ≤ L.reserve) := Lib.hid (by omega)
        have HE : Hid (lcommit L d b = lcommit2 L (d.append L.name (frameL b)) n12) := Lib.hid (by unfold lcommit; rw [if_neg HB.out, if_neg HLG.out, if_neg (by rw [← HN.out, HK12.out]; exact hq), ← HN.out, HK12.out])
        apply wp_region_relH (H := []) 12 [(Sum.inl _ : TT), (Sum.inl _ : TT), (Sum.inl _ : TT), (Sum.inl _ : TT), (Sum.inl _ : TT), (Sum.inl _ : TT), (Sum.inl _ : TT), (Sum.inl _ : TT), (Sum.inl _ : TT), (Sum.inl _ : TT), (Sum.inl _ : TT), (Sum.inl _ : TT)] (by kernel_rfl) (by kernel_rfl) (fun _ _ _ _ _ h => h) rfl
        simp only [List.take_succ_cons, List.take_zero, List.drop_succ_cons, List.drop_zero]
        iterate 12 (apply rel_isS; (intro W hW hf; obtain ⟨x1, x2, x3, x4⟩ := HCC.out W hW; go_simp; first | exact ⟨StayS.refl _ _, rfl⟩ | rfl); simp only [Act.put, List.setIfInBounds_toArray, List.set_cons_succ, List.set_cons_zero])
        refine rel_endS ?_
        intro W hW hf
        try simp only [Act.put, List.setIfInBounds_toArray, List.set_cons_succ, List.set_cons_zero]
        have H3 := Lib.hid (H2.out.below hW)
        have HL3 : Hid (LogAt W q p L) := Lib.hid ((hW.block _ HL2.out.lt).trans HL2.out)
        have HB3 := Lib.hid (HB2.out.trans (hW.mono HB2.out.size))
        have HRD3 := Lib.hid ((HRD.out.below hW).more hW.size)
        clear hW hf hq hq2 hwr HCC HRD H2 HL2 HB2 H HC HC0
        have HCC : Hid (∀ W2, Below W.heap.size W W2 → W2.cell? ⟨q, 0, none⟩ = some (.pointer (some ⟨p, 0, none⟩)) ∧ W2.cell? ⟨q, 1, none⟩ = some (.string (str L.name))) := Lib.hid fun W2 h => by
          have a := cell_blk ((h.block _ HL3.out.lt).trans HL3.out)
          exact ⟨a 0, a 1⟩
        go_upto_region 10 with (fail)
        rename_i W0 _
        apply wp_region_relH (H := []) 9 [(Sum.inl _ : TT), (Sum.inl _ : TT), (Sum.inl _ : TT), (Sum.inl _ : TT), (Sum.inl _ : TT), (Sum.inl _ : TT), (Sum.inl _ : TT), (Sum.inl _ : TT), (Sum.inl _ : TT)] (by kernel_rfl) (by kernel_rfl) (fun _ _ _ _ _ h => h) rfl
        simp only [List.take_succ_cons, List.take_zero, List.drop_succ_cons, List.drop_zero]
        iterate 9 (apply rel_isS; (intro W hW hf; obtain ⟨x1, x2⟩ := HCC.out W hW; go_simp; first | exact ⟨StayS.refl _ _, rfl⟩ | rfl); simp only [Act.put, List.setIfInBounds_toArray, List.set_cons_succ, List.set_cons_zero])
        refine rel_endS ?_
        intro W hW hf
        try simp only [Act.put, List.setIfInBounds_toArray, List.set_cons_succ, List.set_cons_zero]
        have H4 := Lib.hid (H3.out.below hW)
        have HL4 : Hid (LogAt W q p L) := Lib.hid ((hW.block _ HL3.out.lt).trans HL3.out)
        have HB4 := Lib.hid (HB3.out.trans (hW.mono HB3.out.size))
        have HRD4 := Lib.hid ((HRD3.out.below hW).more hW.size)
        clear hW hf HCC HRD3 H3 HL3 HB3
        have HFL : Hid (n12 = (frameL b).length) := Lib.hid (by rw [frame_length, ← HN.out, HK12.out])
        have HAP := Lib.hid (append_at H4.out (by omega) L.name (by omega) (frameL b) n12 HFL.out (by omega) A2 cp HRD4.out (fun h => List.eq_nil_of_length_eq_zero (by rw [← HFL.out]; exact HA2.out h)))
        go_wp2_with fail
        refine HAP.out.mono ?_
        rintro e w5 ⟨rfl, h5, h6⟩
        have H5 := Lib.hid h5
        have HL5 : Hid (LogAt w5 q p L) := Lib.hid ((h6.block _ HL4.out.lt HNE.out.1 HNE.out.2).trans HL4.out)
        have HB5 : Hid (Bw w1 w5 [p, m, q]) := Lib.hid ((Bw.of_below HB4.out).trans (h6.bw.more (by simp)))
        have hwr5 : (d.append L.name (frameL b)).1.writes ≤ d.writes + 1 := append_writes _ _ _
        clear h5 h6 HAP HRD4 H4 HL4 HB4
        generalize d.append L.name (frameL b) = s at *
        obtain ⟨d5, e5⟩ := s
        simp only [] at hwr5
        have HD5 : Hid (DiskAt w5 p m d5) := Lib.hid H5.out
        clear H5
        by_cases h0 : e5 = 0
        · subst h0
          have HE2 : Hid (lcommit2 L (d5, 0) n12 = lcommit3 L (d5.sync L.name) n12) := Lib.hid (by unfold lcommit2; rw [if_neg (fun h => h rfl)])
          have HCC : Hid (∀ W2, Below w5.heap.size w5 W2 → W2.cell? ⟨q, 0, none⟩ = some (.pointer (some ⟨p, 0, none⟩)) ∧ W2.cell? ⟨q, 1, none⟩ = some (.string (str L.name))) := Lib.hid fun W2 h => by
            have a := cell_blk ((h.block _ HL5.out.lt).trans HL5.out)
            exact ⟨a 0, a 1⟩
          go_upto_region 14 with (fail)
          apply wp_region_relH (H := []) 8 [(Sum.inl _ : TT), (Sum.inl _ : TT), (Sum.inl _ : TT), (Sum.inl _ : TT), (Sum.inl _ : TT), (Sum.inl _ : TT), (Sum.inl _ : TT), (Sum.inl _ : TT)] (by kernel_rfl) (by kernel_rfl) (fun _ _ _ _ _ h => h) rfl
          simp only [List.take_succ_cons, List.take_zero, List.drop_succ_cons, List.drop_zero]
          iterate 8 (apply rel_isS; (intro W hW hf; obtain ⟨x1, x2⟩ := HCC.out W hW; go_simp; first | exact ⟨StayS.refl _ _, rfl⟩ | rfl); simp only [Act.put, List.setIfInBounds_toArray, List.set_cons_succ, List.set_cons_zero])
          refine rel_endS ?_
          intro W hW hf
          try simp only [Act.put, List.setIfInBounds_toArray, List.set_cons_succ, List.set_cons_zero]
          have H6 := Lib.hid (HD5.out.below hW)
          have HL6 : Hid (LogAt W q p L) := Lib.hid ((hW.block _ HL5.out.lt).trans HL5.out)
          have HB6 := Lib.hid (HB5.out.trans (.of_below hW))
          clear hW hf HCC HD5 HL5 HB5
          have HSY := Lib.hid (sync_at H6.out (by omega) L.name (by omega))
          go_wp2_with fail
          refine HSY.out.mono ?_
          rintro e w7 ⟨rfl, h7, h8⟩
          have HL7 : Hid (LogAt w7 q p L) := Lib.hid ((h8.block _ HL6.out.lt HNE.out.1 HNE.out.2).trans HL6.out)
          have HB7 : Hid (Bw w1 w7 [p, m, q]) := Lib.hid (HB6.out.trans (h8.bw.more (by simp)))
          have H7 := Lib.hid h7
          clear h7 h8 HSY H6 HL6 HB6
          generalize d5.sync L.name = s at *
          obtain ⟨d7, e7⟩ := s
          have HD7 : Hid (DiskAt w7 p m d7) := Lib.hid H7.out
          clear H7
          have hc := fun i => cell_blk HL7.out i
          have c3 := hc 3; have c4 := hc 4; have c5 := hc 5
          simp only [List.getElem?_toArray, List.getElem?_cons_succ, List.getElem?_cons_zero] at c3 c4 c5
          have fz := fun i => free_blk HL7.out i
          clear hc
          by_cases h0 : e7 = 0
          · subst h0
            have HE3 : Hid (lcommit L d b = (⟨L.name, L.reserve, L.n + 1, L.size + n12, L.broken⟩, d7, 0)) := Lib.hid (by rw [HE.out, HE2.out]; unfold lcommit3; rw [if_neg (fun h => h rfl)])
            have hq4 := HQ.out
            have c3' := c3; have c4' := c4
            go_wp2_with fail
            go_ret
            refine ⟨by rw [HE3.out]; rfl, by rw [HE3.out]; exact (HD7.out.set c3' rfl HNE.out.1 _).set ((cell_set (by simp)).trans c4') rfl HNE.out.1 _, ?_, HB7.out.trans ((((Ow.refl w7 q).set 3 _).set 4 _).bw.more (by simp))⟩
            rw [HE3.out]
            unfold LogAt
            simp only [Int.natCast_add]
            exact set_blk (set_blk HL7.out 3 _) 4 _
          · have h1 : ((e7 : Int) != 0) = true := by simpa using h0
            have HE3 : Hid (lcommit L d b = (⟨L.name, L.reserve, L.n, L.size, true⟩, d7, e7)) := Lib.hid (by rw [HE.out, HE2.out]; unfold lcommit3; rw [if_pos h0])
            have c5' := c5
            clear h0
            go_wp2_with fail
            go_ret
            exact ⟨by rw [HE3.out]; rfl, by rw [HE3.out]; exact HD7.out.set c5' rfl HNE.out.1 _, by rw [HE3.out]; exact set_blk HL7.out 5 (.bool true), HB7.out.trans (((Ow.refl w7 q).set 5 (.bool true)).bw.more (by simp))⟩
        · have h1 : ((e5 : Int) != 0) = true := by simpa using h0
          have HE3 : Hid (lcommit L d b = (⟨L.name, L.reserve, L.n, L.size, !decide (e5 = 8)⟩, d5, e5)) := Lib.hid (by rw [HE.out]; unfold lcommit2; rw [if_pos h0])
          have h2 : ((e5 : Int) != 8) = !decide (e5 = 8) := by by_cases h : e5 = 8 <;> simp [h] <;> omega
          have hc := fun i => cell_blk HL5.out i
          have c5 := hc 5
          simp only [List.getElem?_toArray, List.getElem?_cons_succ, List.getElem?_cons_zero] at c5
          have fz := fun i => free_blk HL5.out i
          have c5' := c5
          clear h0 hc
          go_wp2_with fail
          go_ret
          exact ⟨by rw [HE3.out]; rfl, by rw [HE3.out]; exact HD5.out.set c5' rfl HNE.out.1 _, by rw [HE3.out]; exact set_blk HL5.out 5 (.bool (!decide (e5 = 8))), HB5.out.trans (((Ow.refl w5 q).set 5 (.bool (!decide (e5 = 8)))).bw.more (by simp))⟩
end Go.Proofs.YtegekaocbalndaaGreatDoor
end

section
set_option linter.unusedSimpArgs false
set_option linter.unusedVariables false
namespace Go.Proofs.YtegekaocbalndaaGreatDoor
open Go.RowKit

theorem run_index_str {P : Program} (w : World) (t : TypeId) (ht : P.underlying t = some .string) (l : Nm) (k : Nat) (h : k < l.length) : (Instr.index t (.string (str l)) (.int .i64 (k : Int))).run P w = .ok (.int .u8 ((l.getD k 0).toNat : Int)) w := by
  have h1 := run_index_string (P := P) w t (str l) .i64 (k : Int) ht
  rw [h1, dif_pos ⟨by omega, by rw [str_len]; omega⟩]
  have : (str l)[(k : Int).toNat]'(by rw [str_len]; omega) = l.getD k 0 := by
    show l.toArray[k]'(by simpa using h) = _
    rw [List.getElem_toArray]
    simp [List.getD_eq_getElem?_getD, h]
  rw [this]
set_option maxRecDepth 100000 in
set_option maxHeartbeats 4000000 in
theorem logname_any (l : Nm) (hl : l.length ≤ 1000000000) (w : World) : Calls Tryz.prog 60 #[.string (str l)] w fun e w' => e = .returned (.bool (nameOk l)) ∧ w' = w := by
  have hs := str_len l
  have hix := fun k h => run_index_str (P := Tryz.prog) w 9 Tryz.underlying9 l k h
  have HIX := Lib.hid hix
  clear hix
  go_enter Tryz.func60, Tryz.ntmps60
  go_wp2_with fail
  go_loopw [3, 4, 7] (fun _ _ iv wr => ∃ k : Nat, k ≤ l.length ∧ iv = .int .i64 k ∧ (l.take k).all okc = true ∧ w = wr) (fun _ _ iv _ => l.length - (intOf iv).toNat)
  case atStart => exact ⟨0, by omega, rfl, by simp, rfl⟩
  case round =>
    obtain ⟨k, hk, rfl, hall, rfl⟩ := hrel
    have HALL := Lib.hid hall
    clear hall
    by_cases hlt : k < l.length
    · have hix := HIX.out k hlt
      have Htk : Hid ((l.take (k + 1)).all okc = okc (l.getD k 0)) := Lib.hid (by
        rw [List.take_succ_eq_append_getElem hlt, List.all_append, HALL.out]
        simp [List.getD_eq_getElem?_getD, hlt])
      have Hbad : Hid (okc (l.getD k 0) = false → nameOk l = false) := Lib.hid (fun hz => by
        have : l.all okc = false := by
          rw [List.all_eq_false]
          exact ⟨l.getD k 0, by simp [List.getD_eq_getElem?_getD, hlt], by rw [hz]; decide⟩
        unfold nameOk; rw [this]; simp)
      have hz : ∀ z, (decide (97 ≤ (l.getD k 0).toNat ∧ (l.getD k 0).toNat ≤ 122) || decide (48 ≤ (l.getD k 0).toNat ∧ (l.getD k 0).toNat ≤ 57) || decide ((l.getD k 0).toNat = 46) || decide ((l.getD k 0).toNat = 45)) = z → okc (l.getD k 0) = z := fun z h => h
      generalize okc (l.getD k 0) = y at *
      generalize (l.getD k 0).toNat = n at *
      have hcase : n < 45 ∨ n = 45 ∨ n = 46 ∨ n = 47 ∨ (48 ≤ n ∧ n ≤ 57) ∨ (58 ≤ n ∧ n ≤ 96) ∨ (97 ≤ n ∧ n ≤ 122) ∨ 123 ≤ n := by omega
      rcases hcase with h | rfl | rfl | rfl | ⟨h, h'⟩ | ⟨h, h'⟩ | ⟨h, h'⟩ | h
      · obtain rfl := hz false (by simp; omega)
        clear hz
        have f0 : (n : Int) < 97 := by first | omega | (rw [bne_iff_ne]; omega)
        have f1 : (n : Int) < 48 := by first | omega | (rw [bne_iff_ne]; omega)
        have f2 : ((n : Int) != 46) = true := by first | omega | (rw [bne_iff_ne]; omega)
        have f3 : ((n : Int) != 45) = true := by first | omega | (rw [bne_iff_ne]; omega)
        have Hb := Lib.hid (Hbad.out rfl)
        go_wp2_with fail
        go_ret
        exact ⟨ret_bool (by rw [Hb.out]), rfl⟩
      · obtain rfl := hz true (by decide)
        clear hz
        go_wp2_with fail
        go_roundw
        case rel => exact ⟨k + 1, by omega, by go_num, Htk.out, trivial⟩
        case measure => simp [intOf]; omega
      · obtain rfl := hz true (by decide)
        clear hz
        go_wp2_with fail
        go_roundw
        case rel => exact ⟨k + 1, by omega, by go_num, Htk.out, trivial⟩
        case measure => simp [intOf]; omega
      · obtain rfl := hz false (by decide)
        clear hz
        have Hb := Lib.hid (Hbad.out rfl)
        go_wp2_with fail
        go_ret
        exact ⟨ret_bool (by rw [Hb.out]), rfl⟩
      · obtain rfl := hz true (by simp; omega)
        clear hz
        have f0 : (n : Int) < 97 := by first | omega | (rw [bne_iff_ne]; omega)
        have f1 : ¬ (n : Int) < 48 := by first | omega | (rw [bne_iff_ne]; omega)
        have f2 : ¬ 57 < (n : Int) := by first | omega | (rw [bne_iff_ne]; omega)
        go_wp2_with fail
        go_roundw
        case rel => exact ⟨k + 1, by omega, by go_num, Htk.out, trivial⟩
        case measure => simp [intOf]; omega
      · obtain rfl := hz false (by simp; omega)
        clear hz
        have f0 : (n : Int) < 97 := by first | omega | (rw [bne_iff_ne]; omega)
        have f1 : ¬ (n : Int) < 48 := by first | omega | (rw [bne_iff_ne]; omega)
        have f2 : 57 < (n : Int) := by first | omega | (rw [bne_iff_ne]; omega)
        have f3 : ((n : Int) != 46) = true := by first | omega | (rw [bne_iff_ne]; omega)
        have f4 : ((n : Int) != 45) = true := by first | omega | (rw [bne_iff_ne]; omega)
        have Hb := Lib.hid (Hbad.out rfl)
        go_wp2_with fail
        go_ret
        exact ⟨ret_bool (by rw [Hb.out]), rfl⟩
      · obtain rfl := hz true (by simp; omega)
        clear hz
        have f0 : ¬ (n : Int) < 97 := by first | omega | (rw [bne_iff_ne]; omega)
        have f1 : ¬ 122 < (n : Int) := by first | omega | (rw [bne_iff_ne]; omega)
        go_wp2_with fail
        go_roundw
        case rel => exact ⟨k + 1, by omega, by go_num, Htk.out, trivial⟩
        case measure => simp [intOf]; omega
      · obtain rfl := hz false (by simp; omega)
        clear hz
        have f0 : ¬ (n : Int) < 97 := by first | omega | (rw [bne_iff_ne]; omega)
        have f1 : 122 < (n : Int) := by first | omega | (rw [bne_iff_ne]; omega)
        have f2 : ¬ (n : Int) < 48 := by first | omega | (rw [bne_iff_ne]; omega)
        have f3 : 57 < (n : Int) := by first | omega | (rw [bne_iff_ne]; omega)
        have f4 : ((n : Int) != 46) = true := by first | omega | (rw [bne_iff_ne]; omega)
        have f5 : ((n : Int) != 45) = true := by first | omega | (rw [bne_iff_ne]; omega)
        have Hb := Lib.hid (Hbad.out rfl)
        go_wp2_with fail
        go_ret
        exact ⟨ret_bool (by rw [Hb.out]), rfl⟩
    · obtain rfl : k = l.length := by omega
      have hal : l.all okc = true := by have := HALL.out; rwa [List.take_length] at this
      have HZ : Hid (nameOk l = (decide (1 ≤ l.length) && decide (l.length ≤ 40))) := Lib.hid (by unfold nameOk; rw [hal]; simp)
      clear hal
      by_cases he : l = []
      · have h1 : (str l).toList.isEmpty = true := by rw [str_toList, he]; rfl
        have HE := Lib.hid he
        clear he
        go_wp2_with fail
        go_ret
        exact ⟨ret_bool (by rw [HZ.out, HE.out]; rfl), rfl⟩
      · have h1 : (str l).toList.isEmpty = false := by rw [str_toList]; cases l with
          | nil => exact absurd rfl he
          | cons a b => rfl
        have h2 : 1 ≤ l.length := by cases l with
          | nil => exact absurd rfl he
          | cons a b => simp
        clear he
        go_wp2_with fail
        go_ret
        exact ⟨ret_bool (by rw [HZ.out, decide_eq_true h2]; simp; try omega), rfl⟩
end Go.Proofs.YtegekaocbalndaaGreatDoor
end

section
set_option linter.unusedSimpArgs false
set_option linter.unusedVariables false
namespace Go.Proofs.YtegekaocbalndaaGreatDoor
open Go.RowKit

structure OpenR where
  d : Dk
  l : Option Lg
  ls : List (List UInt8)
  e : Nat
def lopen3 (s : Dk × Nat) (k : Nm) (res : Int) (sc : List (List UInt8) × Nat × Nat) : OpenR :=
  if s.2 ≠ 0 then ⟨s.1, none, [], s.2⟩ else if res < (sc.2.1 : Int) then ⟨s.1, none, [], 12⟩ else ⟨s.1, some ⟨k, res.toNat, sc.1.length, sc.2.1, false⟩, sc.1, 0⟩
def lopen2 (s : Dk × Nat) (k : Nm) (res : Int) (sc : List (List UInt8) × Nat × Nat) : OpenR :=
  if s.2 ≠ 0 then ⟨s.1, none, [], s.2⟩ else if sc.2.2 = 2 then ⟨s.1, none, [], 14⟩
  else lopen3 (if sc.2.2 = 1 then s.1.cut k (sc.2.1 : Int) else (s.1, 0)) k res sc
def lopen (d : Dk) (k : Nm) (res : Int) : OpenR :=
  if nameOk k = false ∨ res < 1 ∨ 67108864 < res then ⟨d, none, [], 2⟩
  else lopen2 (if 0 < d.loose k then d.sync k else (d, 0)) k res (scanL (d.file k).b)
def LogV (w0 w : World) (p : Nat) (pv : Value) : Option Lg → Prop
  | none => pv = .pointer none
  | some L => ∃ q, pv = .pointer (some ⟨q, 0, none⟩) ∧ LogAt w q p L ∧ w0.heap.size ≤ q
def OpenP (w : World) (p m : Nat) (r : OpenR) (e : Ending) (w' : World) : Prop := DiskAt w' p m r.d ∧ Dw w w' p m ∧ ∃ pv A c, e = .returned (.tuple #[pv, .slice A r.ls.length c, .int .i64 r.e]) ∧ Ls w' w'.heap.size A r.ls ∧ (A = none → r.ls = []) ∧ r.ls.length ≤ c ∧ LogV w w' p pv r.l
theorem OpenP.quit {w w' : World} {p m : Nat} {r : OpenR} {e : Ending} {d : Dk} {n : Nat} (hr : r = ⟨d, none, [], n⟩) (he : e = .returned (.tuple #[.pointer none, .slice none 0 0, .int .i64 n])) (hd : DiskAt w' p m d) (hw : Dw w w' p m) : OpenP w p m r e w' := by
  subst hr
  exact ⟨hd, hw, .pointer none, none, 0, he, fun i hi => absurd hi (by simp), fun _ => rfl, Nat.le_refl _, rfl⟩
def NoSl (w : World) (k : Nat) : Prop := ∀ i a n c, w.cell? ⟨k, i, none⟩ ≠ some (.slice a n c)
theorem Bw.ls {w w' : World} {S : List Nat} (h : Bw w w' S) (hs : ∀ k ∈ S, NoBytes w k ∧ NoSl w k) {B : Nat} (hB : B ≤ w.heap.size) {A : Option Addr} {l : List (List UInt8)} (hl : Ls w B A l) : Ls w' B A l := fun j hj => by
  obtain ⟨b, off, h1, h2, Ai, ci, h3, h4, h5⟩ := hl j hj
  exact ⟨b, off, h1, h2, Ai, ci, h.cell h3 (fun h6 => (hs b h6).2 _ _ _ _ h3), h.bs (fun k hk => (hs k hk).1) hB h4, h5⟩
theorem DiskAt.noSl {w : World} {p m : Nat} {d : Dk} (h : DiskAt w p m d) : ∀ k ∈ [p, m], NoBytes w k ∧ NoSl w k := fun k hk => ⟨h.noBytes k hk, fun i a n c hc => by
  simp at hk
  rcases hk with rfl | rfl
  · rw [cell_blk h.own] at hc
    match i, hc with
    | 0, hc => cases hc
    | 1, hc => cases hc
    | 2, hc => cases hc
    | 3, hc => cases hc
    | i + 4, hc => simp at hc
  · exact h.raw.no_map hc rfl⟩
theorem LogAt.noSl {w : World} {q p : Nat} {L : Lg} (h : LogAt w q p L) : NoBytes w q ∧ NoSl w q := ⟨h.noBytes, fun i a n c hc => by
  rw [cell_blk h] at hc
  match i, hc with
  | 0, hc => cases hc
  | 1, hc => cases hc
  | 2, hc => cases hc
  | 3, hc => cases hc
  | 4, hc => cases hc
  | 5, hc => cases hc
  | i + 6, hc => simp at hc⟩
theorem read_b (d : Dk) (k : Nm) : (d.read k).1 = (d.file k).b := by
  unfold Dk.read
  cases h : d.has k with
  | false => rw [if_pos rfl, (file_none h).2]; rfl
  | true => rw [if_neg (by decide)]
theorem read_e (d : Dk) (k : Nm) : (d.read k).2 = if d.has k = true then 0 else 6 := by
  unfold Dk.read
  cases h : d.has k <;> rfl
set_option maxRecDepth 100000 in
set_option maxHeartbeats 4000000 in
theorem open_at {w : World} {p m : Nat} {d : Dk} (h : DiskAt w p m d) (hw : d.writes < 100000000000) (k : Nm) (hk : k.length ≤ 1000000000) (res : Int) (hlen : (d.file k).b.length ≤ 1000000) :
    Calls Tryz.prog 31 #[.pointer (some ⟨p, 0, none⟩), .string (str k), .int .i64 res] w (OpenP w p m (lopen d k res)) := by
  have H := Lib.hid h
  have HLEN := Lib.hid hlen
  clear h
  go_enter Tryz.func31, Tryz.ntmps31
  go_wp2_with fail
  refine (read_at H.out k (Nat.le_trans hk (by decide))).mono ?_
  rintro e w1 ⟨A, cap, rfl, hbs, hA0, hcap, hb1⟩
  have hrb := read_b d k
  have hre : (((d.read k).2 : Int) == 1) = false := by rw [read_e]; cases d.has k <;> rfl
  generalize d.read k = rd at *
  obtain ⟨rb, re⟩ := rd
  simp only [] at hrb hre hbs hA0 hcap
  subst hrb
  have H1 := Lib.hid (H.out.below hb1)
  have HB1 := Lib.hid hb1; have HBS := Lib.hid hbs; have HA0 := Lib.hid hA0
  have hsa := scan_again _ (d.file k).b (Nat.le_refl _)
  have HSN : Hid ((scanL (d.file k).b).2.1 ≤ (d.file k).b.length ∧ (scanL (d.file k).b).2.2 ≤ 2) := Lib.hid ⟨hsa.2.1, hsa.2.2.2.1⟩
  clear hb1 hbs hA0 hsa
  cases hnn : nameOk k with
  | false =>
    have HE : Hid (lopen d k res = ⟨d, none, [], 2⟩) := Lib.hid (by unfold lopen; rw [if_pos (.inl hnn)])
    have HNM := Lib.hid (logname_any k hk w1)
    rw [hnn] at HNM
    go_wp2_with fail
    refine HNM.out.mono ?_
    rintro e w2 ⟨rfl, rfl⟩
    go_wp2_with fail
    go_ret3
    exact .quit HE.out rfl H1.out (.of_below HB1.out)
  | true =>
    have HNM := Lib.hid (logname_any k hk w1)
    rw [hnn] at HNM
    by_cases hr1 : res < 1
    · have HE : Hid (lopen d k res = ⟨d, none, [], 2⟩) := Lib.hid (by unfold lopen; rw [if_pos (.inr (.inl hr1))])
      go_wp2_with fail
      refine HNM.out.mono ?_
      rintro e w2 ⟨rfl, rfl⟩
      go_wp2_with fail
      go_ret3
      exact .quit HE.out rfl H1.out (.of_below HB1.out)
    by_cases hr2 : 67108864 < res
    · have HE : Hid (lopen d k res = ⟨d, none, [], 2⟩) := Lib.hid (by unfold lopen; rw [if_pos (.inr (.inr hr2))])
      go_wp2_with fail
      refine HNM.out.mono ?_
      rintro e w2 ⟨rfl, rfl⟩
      go_wp2_with fail
      go_ret3
      exact .quit HE.out rfl H1.out (.of_below HB1.out)
    have HC : Hid (¬ (nameOk k = false ∨ res < 1 ∨ 67108864 < res)) := Lib.hid (fun h => by rcases h with h | h | h; rw [hnn] at h; cases h; exact hr1 h; exact hr2 h)
    clear hnn
    obtain ⟨rn, rfl⟩ : ∃ rn : Nat, res = rn := ⟨res.toNat, by omega⟩
    have HLO := Lib.hid (loose_at H1.out k (Nat.le_trans hk (by decide)))
    go_wp2_with fail
    refine HNM.out.mono ?_
    rintro e w2 ⟨rfl, rfl⟩
    go_wp2_with fail
    refine HLO.out.mono ?_
    rintro e w3 ⟨rfl, hb3⟩
    have H3 := Lib.hid (H1.out.below hb3)
    have HB3 := Lib.hid (HB1.out.trans (hb3.mono HB1.out.size))
    have HBS3 := Lib.hid ((HBS.out.below hb3).more hb3.size)
    clear hb3 HNM HLO HBS HB1 H1
    by_cases hlo : 0 < d.loose k
    · have hlo2 : (0 : Int) < (d.loose k : Nat) := by omega
      have HE : Hid (lopen d k rn = lopen2 (d.sync k) k rn (scanL (d.file k).b)) := Lib.hid (by unfold lopen; rw [if_neg HC.out, if_pos hlo])
      have HSY := Lib.hid (sync_at H3.out (by omega) k (Nat.le_trans hk (by decide)))
      go_wp2_with fail
      refine HSY.out.mono ?_
      rintro e w4 ⟨rfl, h4, h5⟩
      have H4 := Lib.hid h4
      have HD4 := Lib.hid ((Dw.of_below (p := p) (m := m) HB3.out).trans h5)
      have HBS4 := Lib.hid ((H3.out.bs h5 (Nat.le_refl _) HBS3.out).more h5.size)
      have hwr : (d.sync k).1.writes ≤ d.writes + 1 := sync_writes d k
      clear h4 h5 HSY H3 HB3 HBS3 hlo hlo2
      generalize d.sync k = s at *
      obtain ⟨d4, e4⟩ := s
      simp only [] at hwr
      have H4d : Hid (DiskAt w4 p m d4) := Lib.hid H4.out
      clear H4
      by_cases h0 : e4 = 0
      · subst h0
        go_wp2_with fail
        refine (scan_any (d.file k).b HLEN.out A cap w4 HBS4.out hcap).mono ?_
        rintro e w6 ⟨v, vs, rfl, hown, hrows, hb6⟩
        obtain ⟨As, cs6, rfl, hls, hcl, hAs⟩ := Ls.rows hown hrows rfl
        have HLS := Lib.hid hls; have HCL := Lib.hid hcl; have HAS := Lib.hid hAs
        have HD6 := Lib.hid (H4d.out.below hb6)
        have HW6 := Lib.hid (HD4.out.trans (.of_below hb6))
        clear hown hrows hb6 hls hcl hAs
        have HL6 := Lib.hid HLEN.out
        generalize (d.file k).b.length = lb at *
        generalize scanL (d.file k).b = sc at *
        obtain ⟨ls6, n6, how6⟩ := sc
        have hn6 : n6 ≤ 1000000 := by have := HSN.out.1; have := HL6.out; simp only [] at *; omega
        by_cases h2 : how6 = 2
        · subst h2
          have HE6 : Hid (lopen d k rn = ⟨d4, none, [], 14⟩) := Lib.hid (by rw [HE.out]; unfold lopen2; rw [if_neg (fun h => h rfl), if_pos rfl])
          go_wp2_with fail
          go_ret3
          exact .quit HE6.out rfl HD6.out HW6.out
        · by_cases h1 : how6 = 1
          · subst h1
            have HE6 : Hid (lopen d k rn = lopen3 (d4.cut k (n6 : Int)) k rn (ls6, n6, 1)) := Lib.hid (by rw [HE.out]; unfold lopen2; rw [if_neg (fun h => h rfl), if_neg (fun h => by cases h), if_pos rfl])
            have HCU := Lib.hid (cut_at HD6.out (by omega) k (Nat.le_trans hk (by decide)) (n6 : Int) (by omega))
            clear h2
            go_wp2_with fail
            refine HCU.out.mono ?_
            rintro e w7 ⟨rfl, h7, h8⟩
            have H7 := Lib.hid h7
            have HW7 := Lib.hid (HW6.out.trans h8)
            have HLS7 := Lib.hid ((h8.bw.ls HD6.out.noSl (Nat.le_refl _) HLS.out).more h8.size)
            clear h7 h8 HCU HLS HW6 HD6
            generalize d4.cut k (n6 : Int) = s at *
            obtain ⟨d7, e7⟩ := s
            have HD7 : Hid (DiskAt w7 p m d7) := Lib.hid H7.out
            clear H7
            by_cases h0 : e7 = 0
            · subst h0
              by_cases hrs : (rn : Int) < (n6 : Int)
              · have HE9 : Hid (lopen d k rn = ⟨d7, none, [], 12⟩) := Lib.hid (by rw [HE6.out]; unfold lopen3; rw [if_neg (fun h => h rfl), if_pos hrs])
                go_wp2_with fail
                go_ret3
                exact .quit HE9.out rfl HD7.out HW7.out
              · have HE9 : Hid (lopen d k rn = ⟨d7, some ⟨k, rn, ls6.length, n6, false⟩, ls6, 0⟩) := Lib.hid (by rw [HE6.out]; unfold lopen3; rw [if_neg (fun h => h rfl), if_neg hrs]; rfl)
                go_wp2_with fail
                go_ret3
                have hbb := boxes1 w7 (.cells #[.pointer (some ⟨p, 0, none⟩), .string (str k), .int .i64 rn, .int .i64 ls6.length, .int .i64 n6, .bool false] 96)
                rw [HE9.out]
                exact ⟨HD7.out.below hbb.2, HW7.out.trans (.of_below hbb.2), _, As, cs6, rfl, (HLS7.out.below hbb.2).more hbb.2.size, HAS.out, HCL.out, _, rfl, hbb.1, HW7.out.size⟩
            · have h3 : ((e7 : Int) != 0) = true := by simpa using h0
              have HE7 : Hid (lopen d k rn = ⟨d7, none, [], e7⟩) := Lib.hid (by rw [HE6.out]; unfold lopen3; rw [if_pos h0])
              clear h0
              go_wp2_with fail
              go_ret3
              exact .quit HE7.out rfl HD7.out HW7.out
          · have HE6 : Hid (lopen d k rn = lopen3 (d4, 0) k rn (ls6, n6, how6)) := Lib.hid (by rw [HE.out]; unfold lopen2; rw [if_neg (fun h => h rfl), if_neg h2, if_neg h1])
            have h3 : ((how6 : Int) == 2) = false := by simpa using fun h => h2 (by omega)
            have h4 : ((how6 : Int) == 1) = false := by simpa using fun h => h1 (by omega)
            clear h1 h2
            by_cases hrs : (rn : Int) < (n6 : Int)
            · have HE9 : Hid (lopen d k rn = ⟨d4, none, [], 12⟩) := Lib.hid (by rw [HE6.out]; unfold lopen3; rw [if_neg (fun h => h rfl), if_pos hrs])
              go_wp2_with fail
              go_ret3
              exact .quit HE9.out rfl HD6.out HW6.out
            · have HE9 : Hid (lopen d k rn = ⟨d4, some ⟨k, rn, ls6.length, n6, false⟩, ls6, 0⟩) := Lib.hid (by rw [HE6.out]; unfold lopen3; rw [if_neg (fun h => h rfl), if_neg hrs]; rfl)
              go_wp2_with fail
              go_ret3
              have hbb := boxes1 w6 (.cells #[.pointer (some ⟨p, 0, none⟩), .string (str k), .int .i64 rn, .int .i64 ls6.length, .int .i64 n6, .bool false] 96)
              rw [HE9.out]
              exact ⟨HD6.out.below hbb.2, HW6.out.trans (.of_below hbb.2), _, As, cs6, rfl, (HLS.out.below hbb.2).more hbb.2.size, HAS.out, HCL.out, _, rfl, hbb.1, HW6.out.size⟩
      · have h1 : ((e4 : Int) != 0) = true := by simpa using h0
        have HE2 : Hid (lopen d k rn = ⟨d4, none, [], e4⟩) := Lib.hid (by rw [HE.out]; unfold lopen2; rw [if_pos h0])
        clear h0
        go_wp2_with fail
        go_ret3
        exact .quit HE2.out rfl H4d.out HD4.out
    · have hlo2 : ¬ (0 : Int) < (d.loose k : Nat) := by omega
      have HE : Hid (lopen d k rn = lopen2 (d, 0) k rn (scanL (d.file k).b)) := Lib.hid (by unfold lopen; rw [if_neg HC.out, if_neg hlo])
      have HD3 : Hid (Dw w w3 p m) := Lib.hid (.of_below HB3.out)
      have hwr : d.writes ≤ d.writes + 1 := by omega
      clear hlo HB3
      go_wp2_with fail
      refine (scan_any (d.file k).b HLEN.out A cap w3 HBS3.out hcap).mono ?_
      rintro e w6 ⟨v, vs, rfl, hown, hrows, hb6⟩
      obtain ⟨As, cs6, rfl, hls, hcl, hAs⟩ := Ls.rows hown hrows rfl
      have HLS := Lib.hid hls; have HCL := Lib.hid hcl; have HAS := Lib.hid hAs
      have HD6 := Lib.hid (H3.out.below hb6)
      have HW6 := Lib.hid (HD3.out.trans (.of_below hb6))
      clear hown hrows hb6 hls hcl hAs
      have HL6 := Lib.hid HLEN.out
      generalize (d.file k).b.length = lb at *
      generalize scanL (d.file k).b = sc at *
      obtain ⟨ls6, n6, how6⟩ := sc
      have hn6 : n6 ≤ 1000000 := by have := HSN.out.1; have := HL6.out; simp only [] at *; omega
      by_cases h2 : how6 = 2
      · subst h2
        have HE6 : Hid (lopen d k rn = ⟨d, none, [], 14⟩) := Lib.hid (by rw [HE.out]; unfold lopen2; rw [if_neg (fun h => h rfl), if_pos rfl])
        go_wp2_with fail
        go_ret3
        exact .quit HE6.out rfl HD6.out HW6.out
      · by_cases h1 : how6 = 1
        · subst h1
          have HE6 : Hid (lopen d k rn = lopen3 (d.cut k (n6 : Int)) k rn (ls6, n6, 1)) := Lib.hid (by rw [HE.out]; unfold lopen2; rw [if_neg (fun h => h rfl), if_neg (fun h => by cases h), if_pos rfl])
          have HCU := Lib.hid (cut_at HD6.out (by omega) k (Nat.le_trans hk (by decide)) (n6 : Int) (by omega))
          clear h2
          go_wp2_with fail
          refine HCU.out.mono ?_
          rintro e w7 ⟨rfl, h7, h8⟩
          have H7 := Lib.hid h7
          have HW7 := Lib.hid (HW6.out.trans h8)
          have HLS7 := Lib.hid ((h8.bw.ls HD6.out.noSl (Nat.le_refl _) HLS.out).more h8.size)
          clear h7 h8 HCU HLS HW6 HD6
          generalize d.cut k (n6 : Int) = s at *
          obtain ⟨d7, e7⟩ := s
          have HD7 : Hid (DiskAt w7 p m d7) := Lib.hid H7.out
          clear H7
          by_cases h0 : e7 = 0
          · subst h0
            by_cases hrs : (rn : Int) < (n6 : Int)
            · have HE9 : Hid (lopen d k rn = ⟨d7, none, [], 12⟩) := Lib.hid (by rw [HE6.out]; unfold lopen3; rw [if_neg (fun h => h rfl), if_pos hrs])
              go_wp2_with fail
              go_ret3
              exact .quit HE9.out rfl HD7.out HW7.out
            · have HE9 : Hid (lopen d k rn = ⟨d7, some ⟨k, rn, ls6.length, n6, false⟩, ls6, 0⟩) := Lib.hid (by rw [HE6.out]; unfold lopen3; rw [if_neg (fun h => h rfl), if_neg hrs]; rfl)
              go_wp2_with fail
              go_ret3
              have hbb := boxes1 w7 (.cells #[.pointer (some ⟨p, 0, none⟩), .string (str k), .int .i64 rn, .int .i64 ls6.length, .int .i64 n6, .bool false] 96)
              rw [HE9.out]
              exact ⟨HD7.out.below hbb.2, HW7.out.trans (.of_below hbb.2), _, As, cs6, rfl, (HLS7.out.below hbb.2).more hbb.2.size, HAS.out, HCL.out, _, rfl, hbb.1, HW7.out.size⟩
          · have h3 : ((e7 : Int) != 0) = true := by simpa using h0
            have HE7 : Hid (lopen d k rn = ⟨d7, none, [], e7⟩) := Lib.hid (by rw [HE6.out]; unfold lopen3; rw [if_pos h0])
            clear h0
            go_wp2_with fail
            go_ret3
            exact .quit HE7.out rfl HD7.out HW7.out
        · have HE6 : Hid (lopen d k rn = lopen3 (d, 0) k rn (ls6, n6, how6)) := Lib.hid (by rw [HE.out]; unfold lopen2; rw [if_neg (fun h => h rfl), if_neg h2, if_neg h1])
          have h3 : ((how6 : Int) == 2) = false := by simpa using fun h => h2 (by omega)
          have h4 : ((how6 : Int) == 1) = false := by simpa using fun h => h1 (by omega)
          clear h1 h2
          by_cases hrs : (rn : Int) < (n6 : Int)
          · have HE9 : Hid (lopen d k rn = ⟨d, none, [], 12⟩) := Lib.hid (by rw [HE6.out]; unfold lopen3; rw [if_neg (fun h => h rfl), if_pos hrs])
            go_wp2_with fail
            go_ret3
            exact .quit HE9.out rfl HD6.out HW6.out
          · have HE9 : Hid (lopen d k rn = ⟨d, some ⟨k, rn, ls6.length, n6, false⟩, ls6, 0⟩) := Lib.hid (by rw [HE6.out]; unfold lopen3; rw [if_neg (fun h => h rfl), if_neg hrs]; rfl)
            go_wp2_with fail
            go_ret3
            have hbb := boxes1 w6 (.cells #[.pointer (some ⟨p, 0, none⟩), .string (str k), .int .i64 rn, .int .i64 ls6.length, .int .i64 n6, .bool false] 96)
            rw [HE9.out]
            exact ⟨HD6.out.below hbb.2, HW6.out.trans (.of_below hbb.2), _, As, cs6, rfl, (HLS.out.below hbb.2).more hbb.2.size, HAS.out, HCL.out, _, rfl, hbb.1, HW6.out.size⟩
end Go.Proofs.YtegekaocbalndaaGreatDoor
end

section
set_option linter.unusedSimpArgs false
set_option linter.unusedVariables false
namespace Go.Proofs.YtegekaocbalndaaGreatDoor
open Go.RowKit

set_option maxRecDepth 100000 in
set_option maxHeartbeats 2000000 in
theorem lbroken_at {w : World} {q p : Nat} {L : Lg} (h : LogAt w q p L) : Calls Tryz.prog 49 #[.pointer (some ⟨q, 0, none⟩)] w fun e w' => e = .returned (.bool L.broken) ∧ w' = w := by
  have c0 := cell_blk h 5
  simp only [List.getElem?_toArray, List.getElem?_cons_succ, List.getElem?_cons_zero] at c0
  have HN := Lib.hid (lnone_at h)
  go_enter Tryz.func49, Tryz.ntmps49
  go_wp2_with fail
  refine HN.out.mono ?_
  rintro e w1 ⟨rfl, rfl⟩
  go_wp2_with fail
  go_ret
  exact ⟨rfl, rfl⟩
set_option maxRecDepth 100000 in
set_option maxHeartbeats 2000000 in
theorem fsize_at (n : Nat) (hn : n ≤ 65536) (w : World) : Calls Tryz.prog 65 #[.int .i64 n] w fun e w' => e = .returned (.int .i64 (n + 12 : Nat)) ∧ w' = w := by
  go_enter Tryz.func65, Tryz.ntmps65
  go_wp2_with fail
  go_ret
  exact ⟨by simp only [Int.natCast_add]; rfl, rfl⟩
def lfits (L : Lg) (n : Int) : Bool := decide (0 ≤ n ∧ n ≤ 65536 ∧ n + 12 + L.size ≤ L.reserve)
set_option maxRecDepth 100000 in
set_option maxHeartbeats 2000000 in
theorem lfits_at {w : World} {q p : Nat} {L : Lg} (h : LogAt w q p L) (hok : L.Ok) (n : Int) : Calls Tryz.prog 34 #[.pointer (some ⟨q, 0, none⟩), .int .i64 n] w fun e w' => e = .returned (.bool (lfits L n)) ∧ Below w.heap.size w w' := by
  have HL := Lib.hid h
  have HN : Hid (∀ W, Below w.heap.size w W → Calls Tryz.prog 64 #[.pointer (some ⟨q, 0, none⟩)] W fun e w' => e = .returned (.bool false) ∧ Below W.heap.size W w') := Lib.hid fun W hW => (lnone_at (L := L) (show LogAt W q p L from (hW.block _ h.lt).trans h)).mono fun e w' h => ⟨h.1, h.2 ▸ Below.refl _ _⟩
  have HCC : Hid (∀ W, Below w.heap.size w W → W.cell? ⟨q, 2, none⟩ = some (.int .i64 L.reserve) ∧ W.cell? ⟨q, 4, none⟩ = some (.int .i64 L.size)) := Lib.hid fun W hW => by
    have a := cell_blk ((hW.block _ h.lt).trans h)
    exact ⟨a 2, a 4⟩
  have h1 := hok.reserve; have h2 := hok.size
  have hwr : IntKind.i64.wrap ((L.reserve : Int) - (L.size : Int)) = (L.reserve : Int) - (L.size : Int) := wi64 _ (by omega) (by omega)
  clear h hok
  go_enter Tryz.func34, Tryz.ntmps34
  go_upto_region 1 with (fail)
  by_cases hn : n < 0
  · have HZ : Hid (lfits L n = false) := Lib.hid (by unfold lfits; rw [decide_eq_false]; omega)
    have hn2 : ¬ 0 ≤ n := by omega
    apply wp_region_relH (H := []) 25 [(Sum.inl _ : TT), (Sum.inl _ : TT), (Sum.inl _ : TT), (Sum.inl _ : TT), (Sum.inl _ : TT), (Sum.inl _ : TT), (Sum.inl _ : TT), (Sum.inl _ : TT), (Sum.inl _ : TT), (Sum.inl _ : TT), (Sum.inl _ : TT), (Sum.inl _ : TT), (Sum.inl _ : TT), (Sum.inl _ : TT), (Sum.inl _ : TT), (Sum.inl _ : TT), (Sum.inl _ : TT), (Sum.inl _ : TT), (Sum.inl _ : TT), (Sum.inl _ : TT), (Sum.inl _ : TT), (Sum.inl _ : TT), (Sum.inl _ : TT), (Sum.inl _ : TT), (Sum.inl _ : TT)] (by kernel_rfl) (by kernel_rfl) (fun _ _ _ _ _ h => h) rfl
    simp only [List.take_succ_cons, List.take_zero, List.drop_succ_cons, List.drop_zero]
    iterate 1 (apply rel_isS; (intro W hW hf; go_simp; first | exact ⟨StayS.refl _ _, rfl⟩ | rfl); simp only [Act.put, List.setIfInBounds_toArray, List.set_cons_succ, List.set_cons_zero])
    apply rel_isS
    · intro W hW hf
      exact rel_callS hW rfl (by go_simp <;> first | rfl | exact ⟨rfl, rfl⟩ | exact ⟨rfl, rfl, rfl⟩) ((HN.out W hW).mono fun e w'' h => ⟨_, h.1, h.2, rfl⟩)
    simp only [Act.put, List.setIfInBounds_toArray, List.set_cons_succ, List.set_cons_zero]
    iterate 23 (apply rel_isS; (intro W hW hf; go_simp; first | exact ⟨StayS.refl _ _, rfl⟩ | rfl); simp only [Act.put, List.setIfInBounds_toArray, List.set_cons_succ, List.set_cons_zero])
    refine rel_endS ?_
    intro W hW hf
    try simp only [Act.put, List.setIfInBounds_toArray, List.set_cons_succ, List.set_cons_zero]
    have HW := Lib.hid hW
    clear hW hf
    go_wp2_with fail
    go_ret
    exact ⟨ret_bool (by rw [HZ.out]), HW.out⟩
  · obtain ⟨n, rfl⟩ : ∃ k : Nat, n = k := ⟨n.toNat, by omega⟩
    by_cases hm : 65536 < n
    · have HZ : Hid (lfits L n = false) := Lib.hid (by unfold lfits; rw [decide_eq_false]; omega)
      have hm2 : ¬ (n : Int) ≤ 65536 := by omega
      apply wp_region_relH (H := []) 25 [(Sum.inl _ : TT), (Sum.inl _ : TT), (Sum.inl _ : TT), (Sum.inl _ : TT), (Sum.inl _ : TT), (Sum.inl _ : TT), (Sum.inl _ : TT), (Sum.inl _ : TT), (Sum.inl _ : TT), (Sum.inl _ : TT), (Sum.inl _ : TT), (Sum.inl _ : TT), (Sum.inl _ : TT), (Sum.inl _ : TT), (Sum.inl _ : TT), (Sum.inl _ : TT), (Sum.inl _ : TT), (Sum.inl _ : TT), (Sum.inl _ : TT), (Sum.inl _ : TT), (Sum.inl _ : TT), (Sum.inl _ : TT), (Sum.inl _ : TT), (Sum.inl _ : TT), (Sum.inl _ : TT)] (by kernel_rfl) (by kernel_rfl) (fun _ _ _ _ _ h => h) rfl
      simp only [List.take_succ_cons, List.take_zero, List.drop_succ_cons, List.drop_zero]
      iterate 1 (apply rel_isS; (intro W hW hf; go_simp; first | exact ⟨StayS.refl _ _, rfl⟩ | rfl); simp only [Act.put, List.setIfInBounds_toArray, List.set_cons_succ, List.set_cons_zero])
      apply rel_isS
      · intro W hW hf
        exact rel_callS hW rfl (by go_simp <;> first | rfl | exact ⟨rfl, rfl⟩ | exact ⟨rfl, rfl, rfl⟩) ((HN.out W hW).mono fun e w'' h => ⟨_, h.1, h.2, rfl⟩)
      simp only [Act.put, List.setIfInBounds_toArray, List.set_cons_succ, List.set_cons_zero]
      iterate 23 (apply rel_isS; (intro W hW hf; go_simp; first | exact ⟨StayS.refl _ _, rfl⟩ | rfl); simp only [Act.put, List.setIfInBounds_toArray, List.set_cons_succ, List.set_cons_zero])
      refine rel_endS ?_
      intro W hW hf
      try simp only [Act.put, List.setIfInBounds_toArray, List.set_cons_succ, List.set_cons_zero]
      have HW := Lib.hid hW
      clear hW hf
      go_wp2_with fail
      go_ret
      exact ⟨ret_bool (by rw [HZ.out]), HW.out⟩
    · have hm2 : (n : Int) ≤ 65536 := by omega
      have hsm : n ≤ 65536 := by omega
      have HSZ := Lib.hid (fun W => fsize_at n hsm W)
      have HZ : Hid (lfits L n = decide (((n + 12 : Nat) : Int) ≤ (L.reserve : Int) - (L.size : Int))) := Lib.hid (by unfold lfits; rw [decide_eq_decide]; omega)
      apply wp_region_relH (H := []) 25 [(Sum.inl _ : TT), (Sum.inl _ : TT), (Sum.inl _ : TT), (Sum.inl _ : TT), (Sum.inl _ : TT), (Sum.inl _ : TT), (Sum.inl _ : TT), (Sum.inl _ : TT), (Sum.inl _ : TT), (Sum.inl _ : TT), (Sum.inl _ : TT), (Sum.inl _ : TT), (Sum.inl _ : TT), (Sum.inl _ : TT), (Sum.inl _ : TT), (Sum.inl _ : TT), (Sum.inl _ : TT), (Sum.inl _ : TT), (Sum.inl _ : TT), (Sum.inl _ : TT), (Sum.inl _ : TT), (Sum.inl _ : TT), (Sum.inl _ : TT), (Sum.inl _ : TT), (Sum.inl _ : TT)] (by kernel_rfl) (by kernel_rfl) (fun _ _ _ _ _ h => h) rfl
      simp only [List.take_succ_cons, List.take_zero, List.drop_succ_cons, List.drop_zero]
      iterate 1 (apply rel_isS; (intro W hW hf; go_simp; first | exact ⟨StayS.refl _ _, rfl⟩ | rfl); simp only [Act.put, List.setIfInBounds_toArray, List.set_cons_succ, List.set_cons_zero])
      apply rel_isS
      · intro W hW hf
        exact rel_callS hW rfl (by go_simp <;> first | rfl | exact ⟨rfl, rfl⟩ | exact ⟨rfl, rfl, rfl⟩) ((HN.out W hW).mono fun e w'' h => ⟨_, h.1, h.2, rfl⟩)
      simp only [Act.put, List.setIfInBounds_toArray, List.set_cons_succ, List.set_cons_zero]
      iterate 11 (apply rel_isS; (intro W hW hf; go_simp; first | exact ⟨StayS.refl _ _, rfl⟩ | rfl); simp only [Act.put, List.setIfInBounds_toArray, List.set_cons_succ, List.set_cons_zero])
      apply rel_isS
      · intro W hW hf
        exact rel_callS hW (by first | rfl | (go_simp; done) | (go_simp; simp)) (by go_simp <;> first | rfl | exact ⟨rfl, rfl⟩ | exact ⟨rfl, rfl, rfl⟩) ((HSZ.out W).mono fun e w'' h => ⟨_, h.1, h.2 ▸ Below.refl _ _, rfl⟩)
      simp only [Act.put, List.setIfInBounds_toArray, List.set_cons_succ, List.set_cons_zero]
      iterate 11 (apply rel_isS; (intro W hW hf; obtain ⟨z1, z2⟩ := HCC.out W hW; go_simp; first | exact ⟨StayS.refl _ _, rfl⟩ | rfl); simp only [Act.put, List.setIfInBounds_toArray, List.set_cons_succ, List.set_cons_zero])
      refine rel_endS ?_
      intro W hW hf
      try simp only [Act.put, List.setIfInBounds_toArray, List.set_cons_succ, List.set_cons_zero]
      have HW := Lib.hid hW
      clear hW hf
      go_wp2_with fail
      go_ret
      exact ⟨ret_bool (by rw [HZ.out]; simp only [Int.natCast_add]; rfl), HW.out⟩
end Go.Proofs.YtegekaocbalndaaGreatDoor
end

section
set_option linter.unusedSimpArgs false
set_option linter.unusedVariables false
namespace Go.Proofs.YtegekaocbalndaaGreatDoor
open Go.RowKit

/-- a disk that has nothing but a log's file. -/
structure OneF (d : Dk) (n : Nat) (b : List UInt8) : Prop where
  size : d.size = n
  left : d.left = -1
  fs : (d.fs = [] ∧ b = []) ∨ d.fs = [([108], ⟨b, b.length, true⟩)]
theorem OneF.empty (n : Nat) : OneF (emptyDk n) n [] := ⟨rfl, rfl, .inl ⟨rfl, rfl⟩⟩
theorem lopen_empty (n res : Nat) (h1 : 1 ≤ res) (h2 : res ≤ 67108864) : lopen (emptyDk n) [108] res = ⟨emptyDk n, some ⟨[108], res, 0, 0, false⟩, [], 0⟩ := by
  unfold lopen
  rw [if_neg (by rintro (h | h | h); exact absurd h (by decide); omega; omega)]
  rw [if_neg (show ¬ 0 < (emptyDk n).loose [108] from by show ¬ 0 < 0; decide)]
  unfold lopen2
  rw [if_neg (fun h => h rfl)]
  show (if (0 : Nat) = 2 then _ else _) = _
  rw [if_neg (by decide)]
  unfold lopen3
  show (if (0 : Nat) ≠ 0 then _ else _) = _
  rw [if_neg (fun h => h rfl)]
  show (if (res : Int) < ((0 : Nat) : Int) then _ else _) = _
  rw [if_neg (by omega)]
  rfl
theorem OneF.used {d : Dk} {n : Nat} {b : List UInt8} (h : OneF d n b) : d.used = b.length := by
  unfold Dk.used
  rcases h.fs with ⟨h1, h2⟩ | h1
  · rw [h1, h2]; rfl
  · rw [h1]; simp [total, flen]
theorem OneF.file {d : Dk} {n : Nat} {b : List UInt8} (h : OneF d n b) : (d.file [108]).b = b := by
  unfold Dk.file
  rcases h.fs with ⟨h1, h2⟩ | h1
  · rw [h1, h2]; rfl
  · rw [h1]; rfl
theorem OneF.append {d : Dk} {n : Nat} {b f : List UInt8} (h : OneF d n b) (hn : b.length + f.length ≤ n) : ∃ s t, d.append [108] f = (⟨n, [([108], ⟨b ++ f, s, t⟩)], -1, d.writes + 1⟩, 0) := by
  have hu := h.used
  obtain ⟨h1, h2, h3⟩ := h
  have hw : ∀ fs, d.wr fs = (⟨n, fs, -1, d.writes + 1⟩, 0) := fun fs => by unfold Dk.wr; rw [if_neg (by omega)]; unfold Dk.tick; rw [h1, h2]; rfl
  unfold Dk.append
  rw [if_neg (by decide), if_neg (by rw [hu, h1]; rintro (h | h); rcases h3 with ⟨h4, h5⟩ | h4; rw [h4] at h; exact absurd h.2 (by decide); rw [h4] at h; exact absurd h.2 (by simp); omega), hw]
  rcases h3 with ⟨h4, h5⟩ | h4
  · subst h5
    refine ⟨0, false, ?_⟩
    unfold Dk.file; rw [h4]; rfl
  · refine ⟨b.length, true, ?_⟩
    unfold Dk.file; rw [h4]; rfl
theorem commit_one {d : Dk} {n : Nat} {b rec : List UInt8} {L : Lg} (h : OneF d n b) (hn : L.name = [108]) (hb : L.broken = false) (hs : L.size = b.length) (hr : L.reserve ≤ n) (hl : rec.length ≤ 65536) :
    (L.reserve < b.length + (rec.length + 12) ∧ lcommit L d rec = (L, d, 12)) ∨
    (b.length + (rec.length + 12) ≤ L.reserve ∧ ∃ d', lcommit L d rec = (⟨[108], L.reserve, L.n + 1, (b ++ frameL rec).length, false⟩, d', 0) ∧ OneF d' n (b ++ frameL rec) ∧ d'.writes = d.writes + 2) := by
  unfold lcommit
  rw [if_neg (by rw [hb]; decide), if_neg (by omega), hs]
  by_cases hq : L.reserve < b.length + (rec.length + 12)
  · exact .inl ⟨hq, by rw [if_pos hq]⟩
  · refine .inr ⟨by omega, ?_⟩
    rw [if_neg hq, hn]
    obtain ⟨s, t, ha⟩ := h.append (f := frameL rec) (by rw [frame_length]; omega)
    rw [ha]
    refine ⟨⟨n, [([108], ⟨b ++ frameL rec, (b ++ frameL rec).length, true⟩)], -1, d.writes + 2⟩, ?_, ⟨rfl, rfl, .inr rfl⟩, rfl⟩
    unfold lcommit2
    rw [if_neg (fun h => h rfl)]
    have hsy : (Dk.mk n [([108], ⟨b ++ frameL rec, s, t⟩)] (-1) (d.writes + 1)).sync [108] = (⟨n, [([108], ⟨b ++ frameL rec, (b ++ frameL rec).length, true⟩)], -1, d.writes + 2⟩, 0) := rfl
    show lcommit3 L ((Dk.mk n [([108], ⟨b ++ frameL rec, s, t⟩)] (-1) (d.writes + 1)).sync L.name) (rec.length + 12) = _
    rw [hn, hsy]
    unfold lcommit3
    rw [if_neg (fun h => h rfl), hn, hb, hs, List.length_append, frame_length]
end Go.Proofs.YtegekaocbalndaaGreatDoor
end
