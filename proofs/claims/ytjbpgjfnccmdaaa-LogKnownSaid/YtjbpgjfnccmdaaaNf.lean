/- the chapter's example, LogExact. -/
import Derived.Test.YtjbpgjfnccmdaaaNe
import Derived.Test.YtjbpgjfnccmdaaaKg
set_option linter.unusedSimpArgs false
set_option linter.unusedVariables false
namespace Go.Proofs.Ytjbpgjfnccmdaaa
open Go.RowKit

theorem OneF.lopen {d : Dk} {n : Nat} (h : OneF d n []) (h0 : d.fs = []) : d = ⟨n, [], -1, d.writes⟩ := by
  obtain ⟨a, b, c, e⟩ := d
  have h1 := h.size; have h2 := h.left
  simp only [] at h0 h1 h2
  rw [h0, h1, h2]
/-- a log alone on its disk, all of it new since w0. -/
structure S21 (w0 w : World) (p m q n : Nat) (d : Dk) (b : List UInt8) (L : Lg) : Prop where
  disk : DiskAt w p m d
  one : OneF d n b
  log : LogAt w q p L
  ok : L.Ok
  name : L.name = [108]
  fine : L.broken = false
  size : L.size = b.length
  below : Below w0.heap.size w0 w
  new : w0.heap.size ≤ p ∧ w0.heap.size ≤ m ∧ w0.heap.size ≤ q
theorem below_bw {w0 w w' : World} {S : List Nat} (h : Below w0.heap.size w0 w) (hb : Bw w w' S) (hs : ∀ k ∈ S, w0.heap.size ≤ k) : Below w0.heap.size w0 w' :=
  ⟨hb.os.trans h.os, hb.tape.trans h.tape, hb.output.trans h.output, Nat.le_trans h.size hb.size, fun k hk => (hb.block k (Nat.lt_of_lt_of_le hk h.size) (fun h4 => by have := hs k h4; omega)).trans (h.block k hk)⟩
theorem S21.after {w0 w w' : World} {p m q n : Nat} {d : Dk} {b : List UInt8} {L : Lg} (h : S21 w0 w p m q n d b L) (hb : Below w.heap.size w w') : S21 w0 w' p m q n d b L :=
  ⟨h.disk.below hb, h.one, (hb.block _ h.log.lt).trans h.log, h.ok, h.name, h.fine, h.size, h.below.trans (hb.mono h.below.size), h.new⟩
theorem S21.commit {w0 w : World} {p m q n : Nat} {d : Dk} {b : List UInt8} {L : Lg} (h : S21 w0 w p m q n d b L) (hr : L.reserve ≤ n) (hw : d.writes < 10000000000) (rec : List UInt8) (hl : rec.length ≤ 65536) (k : Nat) (hk : k = rec.length) (C : Option Addr) (capb : Nat) (hC : Bs w w.heap.size C rec) (hC0 : C = none → rec = []) :
    Calls Try.prog 16 #[.pointer (some ⟨q, 0, none⟩), .slice C k capb] w fun e w' => Bw w w' [p, m, q] ∧
      ((L.reserve < b.length + (k + 12) ∧ e = .returned (.int .i64 12) ∧ S21 w0 w' p m q n d b L) ∨
       (b.length + (k + 12) ≤ L.reserve ∧ e = .returned (.int .i64 0) ∧ ∃ d', S21 w0 w' p m q n d' (b ++ frameL rec) ⟨[108], L.reserve, L.n + 1, (b ++ frameL rec).length, false⟩ ∧ d'.writes = d.writes + 2)) := by
  refine (commit_at h.disk h.log h.ok (by omega) rec k hk C capb hC hC0).mono ?_
  rintro e w' ⟨rfl, h1, h2, h3⟩
  subst hk
  have hbe := below_bw h.below h3 (by simp [h.new])
  refine ⟨h3, ?_⟩
  rcases commit_one (rec := rec) h.one h.name h.fine h.size hr hl with ⟨h4, h5⟩ | ⟨h4, d', h5, h6, h7⟩
  · rw [h5] at h1 h2 ⊢
    exact .inl ⟨h4, rfl, ⟨h1, h.one, h2, h.ok, h.name, h.fine, h.size, hbe, h.new⟩⟩
  · rw [h5] at h1 h2 ⊢
    refine .inr ⟨h4, rfl, d', ⟨h1, h6, h2, ⟨h.ok.reserve, ?_, ?_, by show 1 ≤ 1000; decide⟩, rfl, rfl, rfl, hbe, h.new⟩, h7⟩
    · show (b ++ frameL rec).length ≤ L.reserve
      rw [List.length_append, frame_length]; exact h4
    · show L.n + 1 ≤ (b ++ frameL rec).length
      rw [List.length_append, frame_length, ← h.size]
      have := h.ok.n
      omega
/-- opened on a new disk. -/
theorem s21_open {w0 w w' : World} {p m n res : Nat} {e : Ending} (hn : n ≤ 67108864) (hr : 1 ≤ res) (hr2 : res ≤ 67108864) (hb : Below w0.heap.size w0 w) (hp : w0.heap.size ≤ p) (hm : w0.heap.size ≤ m) (h : OpenP w p m (lopen (emptyDk n) [108] res) e w') :
    ∃ q A c, e = .returned (.tuple #[.pointer (some ⟨q, 0, none⟩), .slice A 0 c, .int .i64 0]) ∧ S21 w0 w' p m q n (emptyDk n) [] ⟨[108], res, 0, 0, false⟩ := by
  rw [lopen_empty n res hr hr2] at h
  obtain ⟨hd2, hw2, pv, A, c, rfl, hls, hA0, hc, q, rfl, hl2, hq⟩ := h
  refine ⟨q, A, c, rfl, hd2, .empty n, hl2, ⟨hr2, Nat.zero_le _, Nat.le_refl _, by show 1 ≤ 1000; decide⟩, rfl, rfl, rfl, below_bw hb hw2.bw (by simp [hp, hm]), hp, hm, Nat.le_trans hb.size hq⟩
set_option maxRecDepth 100000 in
set_option maxHeartbeats 4000000 in
theorem awake21 (w : World) : Calls Try.prog 12 #[] w fun e w' => e = .returned (.bool true) ∧ Below w.heap.size w w' := by
  have HNW := Lib.hid (new_at 100 (by decide) (by decide) w)
  go_enter Try.func12, Try.ntmps12
  go_wp2_with fail
  refine HNW.out.mono ?_
  rintro e w1 ⟨rfl, hd1, hb1⟩
  have HB1 := Lib.hid hb1
  have HOP := Lib.hid (open_at hd1 (by decide) [108] (by decide) 40 (by decide))
  clear hd1 hb1 HNW
  go_wp2_with fail
  refine HOP.out.mono ?_
  intro e w2 h2
  obtain ⟨q, A, c, rfl, hs⟩ := s21_open (w0 := w) (n := 100) (res := 40) (by decide) (by decide) (by decide) HB1.out (Nat.le_succ _) (Nat.le_refl _) h2
  have HS := Lib.hid hs
  clear h2 hs HOP HB1
  go_wp2_with fail
  obtain ⟨hb3, hb4⟩ := boxes1 w2 (.cells #[.int .u8 1, .int .u8 2] 5)
  generalize w2.alloc (.cells #[.int .u8 1, .int .u8 2] 5) = w3 at *
  have HC := Lib.hid ((HS.out.after hb4).commit (by decide) (by decide) [1, 2] (by decide) 2 rfl (some ⟨w2.heap.size, 0, none⟩) 2 (Bs.blk (l := [1, 2]) hb3) (by intro h; cases h))
  clear HS hb3 hb4
  refine HC.out.mono ?_
  rintro e w4 ⟨hbw, ⟨h4, _, _⟩ | ⟨h4, rfl, d', h5, h6⟩⟩
  · exact absurd h4 (by decide)
  have HS4 := Lib.hid h5
  have HF1 := Lib.hid (lfits_at h5.log h5.ok 14)
  clear h5 h6 h4 hbw HC
  go_wp2_with fail
  refine HF1.out.mono ?_
  rintro e w5 ⟨rfl, hb5⟩
  have HS5 := Lib.hid (HS4.out.after hb5)
  have HF2 := Lib.hid (lfits_at HS5.out.log HS5.out.ok 15)
  clear hb5 HF1 HS4
  go_wp2_with fail
  refine HF2.out.mono ?_
  rintro e w6 ⟨rfl, hb6⟩
  have HS6 := Lib.hid (HS5.out.after hb6)
  have HL := Lib.hid (llen_at HS6.out.log)
  have HSZ := Lib.hid (lsize_at HS6.out.log)
  clear hb6 HF2 HS5
  go_wp2_with fail
  refine HL.out.mono ?_
  rintro e w7 ⟨rfl, rfl⟩
  go_wp2_with fail
  refine HSZ.out.mono ?_
  rintro e w7 ⟨rfl, rfl⟩
  go_wp2_with fail
  go_ret
  exact ⟨rfl, HS6.out.below⟩
end Go.Proofs.Ytjbpgjfnccmdaaa
