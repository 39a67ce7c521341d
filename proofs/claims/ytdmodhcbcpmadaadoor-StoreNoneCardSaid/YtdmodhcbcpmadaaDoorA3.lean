/- store.Open where there is no snapshot. -/
import Derived.Test.YtdmodhcbcpmadaaDoorA2
import Derived.Test.YtdmodhcbcpmadaaDoorNw
set_option linter.unusedSimpArgs false
set_option linter.unusedVariables false
namespace Go.Proofs.YtdmodhcbcpmadaaDoor
open Go.RowKit

theorem EStr : El Tryd.prog 50 9 (.string ByteArray.empty) 16 := ⟨Tryd.underlying50, by kernel_rfl, rfl⟩
/-- block s is a store. -/
def StoreAt (w : World) (s p : Nat) (base : Nm) (res g : Int) (lv : Value) (broken : Bool) : Prop := w.heap[s]? = some (.cells #[.pointer (some ⟨p, 0, none⟩), .string (str base), .int .i64 res, .int .i64 g, lv, .bool broken] 27 (0, 0))
structure SOpenR where
  d : Dk
  l : Option Lg
  ls : List (List UInt8)
  e : Nat
/-- opened, where there is no snapshot. -/
def sopen0 (d : Dk) (base : Nm) (res : Int) : SOpenR :=
  if baseOk base = false ∨ res < 100 ∨ 67108864 < res then ⟨d, none, [], 2⟩
  else if (rmv d [tmpN base, logN base 1]).2 ≠ 0 then ⟨(rmv d [tmpN base, logN base 1]).1, none, [], (rmv d [tmpN base, logN base 1]).2⟩
  else if (lopen (rmv d [tmpN base, logN base 1]).1 (logN base 0) (res.tdiv 3)).e ≠ 0 then ⟨(lopen (rmv d [tmpN base, logN base 1]).1 (logN base 0) (res.tdiv 3)).d, none, [], (lopen (rmv d [tmpN base, logN base 1]).1 (logN base 0) (res.tdiv 3)).e⟩
  else ⟨(lopen (rmv d [tmpN base, logN base 1]).1 (logN base 0) (res.tdiv 3)).d, (lopen (rmv d [tmpN base, logN base 1]).1 (logN base 0) (res.tdiv 3)).l, (lopen (rmv d [tmpN base, logN base 1]).1 (logN base 0) (res.tdiv 3)).ls, 0⟩
def StV (w0 w : World) (p : Nat) (base : Nm) (res g : Int) (pv : Value) : Option Lg → Prop
  | none => pv = .pointer none
  | some L => ∃ s q, pv = .pointer (some ⟨s, 0, none⟩) ∧ StoreAt w s p base res g (.pointer (some ⟨q, 0, none⟩)) false ∧ LogAt w q p L ∧ w0.heap.size ≤ s ∧ w0.heap.size ≤ q ∧ s ≠ q
def SOpenP (w : World) (p m : Nat) (base : Nm) (res : Int) (r : SOpenR) (e : Ending) (w' : World) : Prop := DiskAt w' p m r.d ∧ Dw w w' p m ∧ ∃ pv A c, e = .returned (.tuple #[pv, .slice none 0 0, .slice A r.ls.length c, .int .i64 r.e]) ∧ Ls w' w'.heap.size A r.ls ∧ (A = none → r.ls = []) ∧ r.ls.length ≤ c ∧ StV w w' p base res 0 pv r.l
theorem SOpenP.quit {w w' : World} {p m : Nat} {base : Nm} {res : Int} {r : SOpenR} {e : Ending} {d : Dk} {n : Nat} (hr : r = ⟨d, none, [], n⟩) (he : e = .returned (.tuple #[.pointer none, .slice none 0 0, .slice none 0 0, .int .i64 n])) (hd : DiskAt w' p m d) (hw : Dw w w' p m) : SOpenP w p m base res r e w' := by
  subst hr
  exact ⟨hd, hw, .pointer none, none, 0, he, fun i hi => absurd hi (by simp), fun _ => rfl, Nat.le_refl _, rfl⟩
theorem StoreAt.keep {w w' : World} {s p p' m : Nat} {base : Nm} {res g : Int} {lv : Value} {b : Bool} {d : Dk} (h : StoreAt w s p base res g lv b) (hd : DiskAt w p' m d) (hw : Dw w w' p' m) : StoreAt w' s p base res g lv b := by
  refine (hw.block s (lt_blk h) ?_ ?_).trans h
  · rintro rfl
    have h1 := h.symm.trans hd.own
    simp at h1
  · exact hd.raw.no_map (cell_blk h 1)
theorem rmv_writes : ∀ (ks : List Nm) (d : Dk), (rmv d ks).1.writes ≤ d.writes + ks.length
  | [], d => Nat.le_refl _
  | k :: ks, d => by
    have h1 := remove_writes d k
    have h2 := rmv_writes ks d
    have h3 := rmv_writes ks (d.remove k).1
    rw [rmv_cons]
    simp only [List.length_cons]
    split
    · omega
    · split <;> omega
theorem results_tmp4 {fn : Func} {t u v x : Tmp} (h : fn.results = #[.tmp t, .tmp u, .tmp v, .tmp x]) (tmps : Array Value) (P : Program) (w : World) :
    (results fn tmps).run P w = .ok (.tuple #[tmps.getD t undef, tmps.getD u undef, tmps.getD v undef, tmps.getD x undef]) w := by
  simp [results, h]
theorem own_lit {w : World} {B g : Nat} {e : TypeId} {u : Value} (hB : B ≤ g) (h : w.heap[g]? = some (.cells #[u] e (0, 0))) : w.ownsRow B e 1 (.slice (some ⟨g, 0, none⟩) 1 1) 1 [u] :=
  ⟨rfl, .inr ⟨g, 1, #[u], rfl, hB, h, Nat.le_refl _, by simp [maxLen], by simp, by simp⟩⟩
theorem Nrow.of_rd {w : World} {B : Nat} {A : Option Addr} {ks : List Nm} (h : Rd w B A (ks.map fun k => .string (str k))) : Nrow w B A ks := fun i hi => by
  obtain ⟨b, off, e, hb, hc⟩ := h i (.string (str (ks.getD i []))) (by simp [List.getD_eq_getElem?_getD, hi])
  exact ⟨b, off, e, hb, hc⟩
theorem lopen3_some {s : Dk × Nat} {k : Nm} {res : Int} {sc : List (List UInt8) × Nat × Nat} (h : (lopen3 s k res sc).e = 0) : ∃ L, (lopen3 s k res sc).l = some L := by
  unfold lopen3 at *
  by_cases h1 : s.2 ≠ 0
  · rw [if_pos h1] at h; exact absurd h h1
  · rw [if_neg h1] at h ⊢
    by_cases h2 : res < (sc.2.1 : Int)
    · rw [if_pos h2] at h; cases h
    · rw [if_neg h2]; exact ⟨_, rfl⟩
theorem lopen2_some {s : Dk × Nat} {k : Nm} {res : Int} {sc : List (List UInt8) × Nat × Nat} (h : (lopen2 s k res sc).e = 0) : ∃ L, (lopen2 s k res sc).l = some L := by
  unfold lopen2 at *
  by_cases h1 : s.2 ≠ 0
  · rw [if_pos h1] at h; exact absurd h h1
  · rw [if_neg h1] at h ⊢
    by_cases h2 : sc.2.2 = 2
    · rw [if_pos h2] at h; cases h
    · rw [if_neg h2] at h ⊢; exact lopen3_some h
theorem lopen_some {d : Dk} {k : Nm} {res : Int} (h : (lopen d k res).e = 0) : ∃ L, (lopen d k res).l = some L := by
  unfold lopen at *
  by_cases h1 : nameOk k = false ∨ res < 1 ∨ 67108864 < res
  · rw [if_pos h1] at h; cases h
  · rw [if_neg h1] at h ⊢; exact lopen2_some h
theorem StoreAt.noSl {w : World} {s p : Nat} {base : Nm} {res g : Int} {b : Bool} {lv : Value} (h : StoreAt w s p base res g lv b) (hl : lv = .pointer none ∨ ∃ a, lv = .pointer (some a)) : NoBytes w s ∧ NoSl w s := by
  refine ⟨fun i c hc => ?_, fun i a n c hc => ?_⟩ <;> rw [cell_blk h] at hc
  · match i, hc with
    | 0, hc => cases hc
    | 1, hc => cases hc
    | 2, hc => cases hc
    | 3, hc => cases hc
    | 4, hc => rcases hl with rfl | ⟨a, rfl⟩ <;> cases hc
    | 5, hc => cases hc
    | i + 6, hc => simp at hc
  · match i, hc with
    | 0, hc => cases hc
    | 1, hc => cases hc
    | 2, hc => cases hc
    | 3, hc => cases hc
    | 4, hc => rcases hl with rfl | ⟨a, rfl⟩ <;> cases hc
    | 5, hc => cases hc
    | i + 6, hc => simp at hc
set_option maxRecDepth 100000 in
set_option maxHeartbeats 8000000 in
theorem sopen0_at {w : World} {p m : Nat} {d : Dk} (h : DiskAt w p m d) (hw : d.writes < 10000000000) (base : Nm) (hb : base.length ≤ 500) (res : Int) (hres : (-9223372036854775808 : Int) ≤ res ∧ res ≤ 9223372036854775807) (hsn : d.has (snapN base) = false) (hlen : ((rmv d [tmpN base, logN base 1]).1.file (logN base 0)).b.length ≤ 1000000) :
    Calls Tryd.prog 4 #[.pointer (some ⟨p, 0, none⟩), .string (str base), .int .i64 res] w (SOpenP w p m base res (sopen0 d base res)) := by
  have H := Lib.hid h
  have HRD := Lib.hid (read_at h [] (by decide))
  have HNM := Lib.hid (fun W => storename_any base (by omega) W)
  have HSN := Lib.hid hsn; have HLN := Lib.hid hlen
  have h2 : (((d.read []).2 : Int) == 1) = false := by
    unfold Dk.read
    cases d.has [] <;> rfl
  have hk1 : (snapN base).length ≤ 1000 := by unfold snapN; rw [List.length_append]; show base.length + 5 ≤ _; omega
  have hk2 : (tmpN base).length ≤ 1000 := by unfold tmpN; rw [List.length_append]; show base.length + 4 ≤ _; omega
  have hk3 : ∀ g, (logN base g).length ≤ 1000 := fun g => by
    unfold logN decS
    rw [List.length_append, List.length_append]
    have : bLog.length = 5 := rfl
    split <;> simp <;> omega
  have HK1 := Lib.hid hk1; have HK2 := Lib.hid hk2; have HK3 := Lib.hid hk3
  obtain ⟨hr1, hr2⟩ := hres
  clear h hsn hlen hk1 hk2 hk3
  unfold ReadP at HRD
  generalize d.read [] = rr at *
  obtain ⟨rl, rz⟩ := rr
  simp only at HRD h2
  go_enter Tryd.func4, Tryd.ntmps4
  go_wp2_with fail
  refine HRD.out.mono ?_
  rintro e w1 ⟨A1, c1, rfl, hbs, _, _, hbw⟩
  have H1 := Lib.hid (H.out.below hbw); have W1 := Lib.hid (Dw.of_below (p := p) (m := m) hbw)
  have hsz1 := hbw.size
  clear hbs hbw HRD H
  generalize rl.length = rn at *
  go_wp2_with fail
  refine (HNM.out w1).mono ?_
  rintro e w2 ⟨rfl, hw2⟩
  rw [hw2]
  clear hw2
  cases hbo : baseOk base with
  | false =>
    have HE : Hid (sopen0 d base res = ⟨d, none, [], 2⟩) := Lib.hid (by unfold sopen0; rw [if_pos (.inl hbo)])
    clear hbo
    go_wp2_with fail
    (try simp only [Exit.inBlock, Exit.then])
    refine bodyPost_ret (results_tmp4 rfl _ _ _) rfl ?_
    exact .quit HE.out rfl H1.out W1.out
  | true =>
    have HBO := Lib.hid hbo
    clear hbo
    by_cases hlow : res < 100
    · have HE : Hid (sopen0 d base res = ⟨d, none, [], 2⟩) := Lib.hid (by unfold sopen0; rw [if_pos (.inr (.inl hlow))])
      go_wp2_with fail
      (try simp only [Exit.inBlock, Exit.then])
      refine bodyPost_ret (results_tmp4 rfl _ _ _) rfl ?_
      exact .quit HE.out rfl H1.out W1.out
    by_cases hhigh : 67108864 < res
    · have HE : Hid (sopen0 d base res = ⟨d, none, [], 2⟩) := Lib.hid (by unfold sopen0; rw [if_pos (.inr (.inr hhigh))])
      go_wp2_with fail
      (try simp only [Exit.inBlock, Exit.then])
      refine bodyPost_ret (results_tmp4 rfl _ _ _) rfl ?_
      exact .quit HE.out rfl H1.out W1.out
    have HDF : Hid (¬ (baseOk base = false ∨ res < 100 ∨ 67108864 < res)) := Lib.hid (by rintro (h | h | h); rw [HBO.out] at h; cases h; omega; omega)
    obtain ⟨R, rfl⟩ : ∃ R : Nat, res = R := ⟨res.toNat, by omega⟩
    go_wp2_with fail
    obtain ⟨b0_, hb_⟩ := boxes1 w1 (.cells #[.pointer (some ⟨p, 0, none⟩), .string (str base), .int .i64 R, .int .i64 0, .pointer none, .bool false] 27)
    generalize w1.alloc (.cells #[.pointer (some ⟨p, 0, none⟩), .string (str base), .int .i64 R, .int .i64 0, .pointer none, .bool false] 27) = w3 at *
    have T0b : Hid (∀ W, Below w3.heap.size w3 W → W.heap[w1.heap.size]? = some (.cells #[.pointer (some ⟨p, 0, none⟩), .string (str base), .int .i64 R, .int .i64 0, .pointer none, .bool false] 27 (0, 0))) := Lib.hid (fun W hW => (hW.block _ (lt_blk b0_)).trans b0_)
    have T0 : Hid (∀ W, Below w3.heap.size w3 W → W.cell? ⟨w1.heap.size, 0, none⟩ = some (.pointer (some ⟨p, 0, none⟩)) ∧ W.cell? ⟨w1.heap.size, 1, none⟩ = some (.string (str base)) ∧ W.cell? ⟨w1.heap.size, 2, none⟩ = some (.int .i64 R) ∧ W.cell? ⟨w1.heap.size, 3, none⟩ = some (.int .i64 0) ∧ W.cell? ⟨w1.heap.size, 4, none⟩ = some (.pointer none) ∧ W.cell? ⟨w1.heap.size, 5, none⟩ = some (.bool false)) := Lib.hid (fun W hW => by have e := (hW.block _ (lt_blk b0_)).trans b0_; exact ⟨by rw [cell_blk e]; rfl, by rw [cell_blk e]; rfl, by rw [cell_blk e]; rfl, by rw [cell_blk e]; rfl, by rw [cell_blk e]; rfl, by rw [cell_blk e]; rfl⟩)
    have HB3 := Lib.hid hb_
    clear hb_ b0_
    generalize hs : w1.heap.size = s at *
    have H3 := Lib.hid (H1.out.below (hs ▸ HB3.out)); have W3 := Lib.hid (W1.out.trans (.of_below (hs ▸ HB3.out)))
    have hsz3 := HB3.out.size
    have hps := H1.out.lt
    refine (snapshot_at s base (by omega) w3 (T0.out w3 (Below.refl _ _)).2.1).mono ?_
    rintro e w4 ⟨rfl, hw4⟩
    rw [hw4]
    clear hw4
    have HTH := there_at H3.out (snapN base) (by have := HK1.out; omega)
    rw [HSN.out] at HTH
    have HTH := Lib.hid HTH
    go_wp2_with fail
    refine HTH.out.mono ?_
    rintro e w5 ⟨A5, c5, rfl, _, _, _, hbw⟩
    have H5 := Lib.hid (H3.out.below hbw); have W5 := Lib.hid (W3.out.trans (.of_below hbw)); have HB5 := Lib.hid hbw
    clear hbw HTH
    generalize (d.read (snapN base)).1.length = sn at *
    have t5 := T0.out w5 HB5.out
    go_wp2_with fail
    refine (draft_at s base (by omega) w5 t5.2.1).mono ?_
    rintro e w6 ⟨rfl, hw6⟩
    rw [hw6]
    clear hw6
    have y5 := fun o => T0.out (w5.alloc o) (HB5.out.trans ((below_alloc w5 o).mono HB5.out.size))
    go_wp2_with fail
    obtain ⟨hbx, hby⟩ := boxes1 w5 (.cells #[.string (str (tmpN base))] 9)
    have HX6 := Lib.hid hbx
    have H6 := Lib.hid (H5.out.below hby); have W6 := Lib.hid (W5.out.trans (.of_below hby)); have HB6 := Lib.hid (HB5.out.trans (hby.mono HB5.out.size))
    have HS6 := Lib.hid hby.size
    clear y5 t5
    generalize w5.alloc (.cells #[.string (str (tmpN base))] 9) = w6 at *
    generalize hg5 : w5.heap.size = g5 at *
    have hg5s : w3.heap.size ≤ g5 := by rw [← hg5]; exact HB5.out.size
    clear hbx hby hg5
    refine (logof_at s base (by omega) 1 (by decide) w6 (fun W hW => (T0.out W (HB6.out.trans (hW.mono HB6.out.size))).2.1)).mono ?_
    rintro e w7 ⟨rfl, hb7⟩
    have H7 := Lib.hid (H6.out.below hb7); have W7 := Lib.hid (W6.out.trans (.of_below hb7)); have HB7 := Lib.hid (HB6.out.trans (hb7.mono HB6.out.size))
    have HX7 := Lib.hid ((hb7.block _ (lt_blk HX6.out)).trans HX6.out)
    clear hb7
    have HO7 := Lib.hid (own_lit (B := w3.heap.size) hg5s HX7.out)
    go_wp2_with (at_builtin; refine wpList_append_one0 EStr rfl (.tmp 85) (.tmp 93) rfl w3.heap.size (.string (str (logN base 1))) rfl _ 1 [.string (str (tmpN base))] rfl HO7.out rfl (by omega) (by decide) w3 (Nat.le_refl _) HB7.out ?_; intro v8 w8 h2 h3 h4 h5; have O8 := Lib.hid h2; have B8 := Lib.hid h3; clear h2 h3 h4 h5; obtain ⟨A8, c8, rfl, hr8, _, _⟩ := own_rd O8.out; have R8 := Lib.hid hr8; clear hr8)
    have H8 := Lib.hid (H3.out.below B8.out); have W8 := Lib.hid (W3.out.trans (.of_below B8.out))
    have HRM := Lib.hid (rmv_at H8.out (by omega) [tmpN base, logN base 1] 2 rfl (by decide) (fun k hk => by
      simp only [List.mem_cons, List.not_mem_nil, or_false] at hk
      rcases hk with rfl | rfl
      · have := HK2.out; omega
      · have := HK3.out 1; omega) A8 c8 (Nrow.of_rd (by exact R8.out)))
    have hrw := rmv_writes [tmpN base, logN base 1] d
    simp only [List.length_cons, List.length_nil] at hrw
    have HS : Hid (StoreAt w8 s p base R 0 (.pointer none) false) := Lib.hid (T0b.out w8 B8.out)
    unfold DiskP at HRM
    have HDF2 : Hid (sopen0 d base R = if (rmv d [tmpN base, logN base 1]).2 ≠ 0 then ⟨(rmv d [tmpN base, logN base 1]).1, none, [], (rmv d [tmpN base, logN base 1]).2⟩
      else if (lopen (rmv d [tmpN base, logN base 1]).1 (logN base 0) ((R / 3 : Nat) : Int)).e ≠ 0 then ⟨(lopen (rmv d [tmpN base, logN base 1]).1 (logN base 0) ((R / 3 : Nat) : Int)).d, none, [], (lopen (rmv d [tmpN base, logN base 1]).1 (logN base 0) ((R / 3 : Nat) : Int)).e⟩
      else ⟨(lopen (rmv d [tmpN base, logN base 1]).1 (logN base 0) ((R / 3 : Nat) : Int)).d, (lopen (rmv d [tmpN base, logN base 1]).1 (logN base 0) ((R / 3 : Nat) : Int)).l, (lopen (rmv d [tmpN base, logN base 1]).1 (logN base 0) ((R / 3 : Nat) : Int)).ls, 0⟩) := Lib.hid (by
      unfold sopen0
      rw [if_neg HDF.out, show ((R : Int).tdiv 3) = ((R / 3 : Nat) : Int) by rw [Int.tdiv_eq_ediv_of_nonneg (by omega)]; omega])
    generalize rmv d [tmpN base, logN base 1] = rm at *
    obtain ⟨d2, z⟩ := rm
    simp only at HRM HLN HDF2 hrw
    clear T0b
    go_wp2_with fail
    refine HRM.out.mono ?_
    rintro e w9 ⟨rfl, h9, hw9⟩
    have H9 := Lib.hid h9; have W9 := Lib.hid (W8.out.trans hw9); have S9 := Lib.hid (HS.out.keep H8.out hw9)
    clear h9 hw9 HRM HS T0
    by_cases hz : z = 0
    · subst hz
      have t9 := fun i => cell_blk S9.out i
      have t91 := t9 1; have t93 := t9 3
      simp only [List.getElem?_toArray, List.getElem?_cons_succ, List.getElem?_cons_zero] at t91 t93
      clear t9
      go_wp2_with fail
      refine (logof_at s base (by omega) 0 (by decide) w9 (fun W hW => (hW.cell (p := ⟨s, 1, none⟩) (lt_blk S9.out)).trans t91)).mono ?_
      rintro e w10 ⟨rfl, hb10⟩
      have H10 := Lib.hid (H9.out.below hb10); have W10 := Lib.hid (W9.out.trans (.of_below hb10)); have S10 : Hid (StoreAt w10 s p base R 0 (.pointer none) false) := Lib.hid ((hb10.block _ (lt_blk S9.out)).trans S9.out)
      clear hb10 t91 t93
      have HLO := Lib.hid (open_at H10.out (by omega) (logN base 0) (by have := HK3.out 0; omega) ((R / 3 : Nat) : Int) HLN.out)
      have hsome := fun (h : (lopen d2 (logN base 0) ((R / 3 : Nat) : Int)).e = 0) => lopen_some h
      have HSOME := Lib.hid hsome
      clear hsome
      generalize lopen d2 (logN base 0) ((R / 3 : Nat) : Int) = lo at *
      obtain ⟨dl, ll, lls, le⟩ := lo
      simp only at HDF2 HSOME
      go_wp2_with fail
      rw [show ((R : Int) / 3) = ((R / 3 : Nat) : Int) by omega]
      refine HLO.out.mono ?_
      rintro e w11 ⟨hd11, hw11, pv, A, c, rfl, hls, hA0, hc, hlv⟩
      have H11 := Lib.hid hd11; have W11 := Lib.hid (W10.out.trans hw11); have S11 := Lib.hid (S10.out.keep H10.out hw11)
      have HLS := Lib.hid hls; have HA0 := Lib.hid hA0; have HC := Lib.hid hc
      have hsz10 := W10.out.size
      have hs10 := lt_blk S10.out
      clear hd11 hw11 hls hA0 hc HLO
      simp only at H11 HLS HA0 HC hlv ⊢
      by_cases hle : le = 0
      · subst hle
        obtain ⟨L, hL⟩ := HSOME.out rfl
        subst hL
        obtain ⟨q, rfl, hlog, hq⟩ := hlv
        have HLG := Lib.hid hlog
        have hc4 := cell_blk S11.out 4
        simp only [List.getElem?_toArray, List.getElem?_cons_succ, List.getElem?_cons_zero] at hc4
        have fz := fun i => free_blk S11.out i
        have HE : Hid (sopen0 d base R = ⟨dl, some L, lls, 0⟩) := Lib.hid (by rw [HDF2.out, if_neg (fun h => h rfl), if_neg (fun h => h rfl)])
        have hsp : s ≠ p := by omega
        have hsq : s ≠ q := by omega
        have HD12 : Hid (DiskAt (w11.setCell ⟨s, 4, none⟩ (.pointer (some ⟨q, 0, none⟩))) p m dl) := Lib.hid (H11.out.set hc4 rfl hsp _)
        have HS12 : Hid (StoreAt (w11.setCell ⟨s, 4, none⟩ (.pointer (some ⟨q, 0, none⟩))) s p base R 0 (.pointer (some ⟨q, 0, none⟩)) false) := Lib.hid (set_blk S11.out 4 _)
        have HG12 : Hid (LogAt (w11.setCell ⟨s, 4, none⟩ (.pointer (some ⟨q, 0, none⟩))) q p L) := Lib.hid ((Below.heap_setCell _ _ _ _ (by simpa using hsq.symm)).trans HLG.out)
        have HW12 : Hid (Dw w (w11.setCell ⟨s, 4, none⟩ (.pointer (some ⟨q, 0, none⟩))) p m) := Lib.hid (W11.out.new (((Ow.refl w11 s).set 4 (.pointer (some ⟨q, 0, none⟩))).dw m) (by omega))
        have HLS12 : Hid (Ls (w11.setCell ⟨s, 4, none⟩ (.pointer (some ⟨q, 0, none⟩))) (w11.setCell ⟨s, 4, none⟩ (.pointer (some ⟨q, 0, none⟩))).heap.size A lls) := Lib.hid ((((Ow.refl w11 s).set 4 (.pointer (some ⟨q, 0, none⟩))).bw.ls (fun k hk => by
          simp only [List.mem_singleton] at hk
          subst hk
          exact S11.out.noSl (.inl rfl)) (Nat.le_refl _) HLS.out).more (by rw [World.size_setCell]; exact Nat.le_refl _))
        clear hlog
        obtain ⟨nl, hnl⟩ : ∃ nl, nl = lls.length := ⟨_, rfl⟩
        have HNL := Lib.hid hnl
        rw [← hnl]
        clear hnl
        go_wp2_with fail
        (try simp only [Exit.inBlock, Exit.then])
        refine bodyPost_ret (results_tmp4 rfl _ _ _) rfl ?_
        rw [HE.out]
        have hnl := HNL.out
        subst hnl
        exact ⟨HD12.out, HW12.out, .pointer (some ⟨s, 0, none⟩), A, c, rfl, HLS12.out, HA0.out, HC.out, s, q, rfl, HS12.out, HG12.out, by have := W3.out.size; omega, by have := W10.out.size; omega, hsq⟩
      · have g0 : ((le : Int) != 0) = true := by rw [bne_iff_ne]; omega
        have HE : Hid (sopen0 d base R = ⟨dl, none, [], le⟩) := Lib.hid (by rw [HDF2.out, if_neg (fun h => h rfl), if_pos hle])
        generalize lls.length = nl at *
        clear hlv
        rcases show ∃ x, x = pv from ⟨pv, rfl⟩ with ⟨pv', hpv⟩
        go_wp2_with fail
        (try simp only [Exit.inBlock, Exit.then])
        refine bodyPost_ret (results_tmp4 rfl _ _ _) rfl ?_
        exact .quit HE.out rfl H11.out W11.out
    · have HE : Hid (sopen0 d base R = ⟨d2, none, [], z⟩) := Lib.hid (by rw [HDF2.out, if_pos hz])
      have g0 : ((z : Int) != 0) = true := by rw [bne_iff_ne]; omega
      go_wp2_with fail
      (try simp only [Exit.inBlock, Exit.then])
      refine bodyPost_ret (results_tmp4 rfl _ _ _) rfl ?_
      exact .quit HE.out rfl H9.out W9.out
end Go.Proofs.YtdmodhcbcpmadaaDoor
