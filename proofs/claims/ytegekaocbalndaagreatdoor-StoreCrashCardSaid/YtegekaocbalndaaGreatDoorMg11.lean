/- several texts in one: store.Open where there is a snapshot., store.Compact's steps., store.Compact's first step ., store.Small, Generation, Broken, Fits., store.Open of arguments that may not be. -/
import Derived.Test.YtegekaocbalndaaGreatDoorMg10
import Derived.Test.YtegekaocbalndaaGreatDoorMg14
import Derived.Test.YtegekaocbalndaaGreatDoorMg12
section
set_option linter.unusedSimpArgs false
set_option linter.unusedVariables false
namespace Go.Proofs.YtegekaocbalndaaGreatDoor
open Go.RowKit

def oldN (base : Nm) (g : Nat) : List Nm := [tmpN base, logN base (g - 1), logN base (g + 1)]
/-- opened, where there is a snapshot of generation g. -/
def sopen1 (d : Dk) (base : Nm) (R g : Nat) : SOpenR :=
  if (rmv d (oldN base g)).2 ≠ 0 then ⟨(rmv d (oldN base g)).1, none, [], (rmv d (oldN base g)).2⟩
  else if (lopen (rmv d (oldN base g)).1 (logN base g) ((R / 3 : Nat) : Int)).e ≠ 0 then ⟨(lopen (rmv d (oldN base g)).1 (logN base g) ((R / 3 : Nat) : Int)).d, none, [], (lopen (rmv d (oldN base g)).1 (logN base g) ((R / 3 : Nat) : Int)).e⟩
  else ⟨(lopen (rmv d (oldN base g)).1 (logN base g) ((R / 3 : Nat) : Int)).d, (lopen (rmv d (oldN base g)).1 (logN base g) ((R / 3 : Nat) : Int)).l, (lopen (rmv d (oldN base g)).1 (logN base g) ((R / 3 : Nat) : Int)).ls, 0⟩
def SOpen1P (w : World) (p m : Nat) (base : Nm) (R g : Nat) (snap : List UInt8) (r : SOpenR) (e : Ending) (w' : World) : Prop := DiskAt w' p m r.d ∧ Dw w w' p m ∧
  ((r.e ≠ 0 ∧ r.l = none ∧ e = .returned (.tuple #[.pointer none, .slice none 0 0, .slice none 0 0, .int .i64 r.e])) ∨
   (r.e = 0 ∧ ∃ pv As cs A c, e = .returned (.tuple #[pv, .slice As snap.length cs, .slice A r.ls.length c, .int .i64 0]) ∧ Bs w' w'.heap.size As snap ∧ (As = none → snap = []) ∧ Ls w' w'.heap.size A r.ls ∧ (A = none → r.ls = []) ∧ r.ls.length ≤ c ∧ StV w w' p base R g pv r.l))
theorem StoreAt.cells {w W : World} {s p : Nat} {base : Nm} {res g : Int} {lv : Value} {b : Bool} (h : StoreAt w s p base res g lv b) (hb : Below w.heap.size w W) : W.cell? ⟨s, 0, none⟩ = some (.pointer (some ⟨p, 0, none⟩)) ∧ W.cell? ⟨s, 1, none⟩ = some (.string (str base)) ∧ W.cell? ⟨s, 2, none⟩ = some (.int .i64 res) ∧ W.cell? ⟨s, 3, none⟩ = some (.int .i64 g) ∧ W.cell? ⟨s, 4, none⟩ = some lv ∧ W.cell? ⟨s, 5, none⟩ = some (.bool b) := by
  have h2 := (hb.block s (lt_blk h)).trans h
  exact ⟨cell_blk h2 0, cell_blk h2 1, cell_blk h2 2, cell_blk h2 3, cell_blk h2 4, cell_blk h2 5⟩
theorem StoreAt.below {w W : World} {s p : Nat} {base : Nm} {res g : Int} {lv : Value} {b : Bool} (h : StoreAt w s p base res g lv b) (hb : Below w.heap.size w W) : StoreAt W s p base res g lv b := (hb.block s (lt_blk h)).trans h
theorem has_read {d : Dk} {k : Nm} (h : d.has k = true) : (d.read k).1 = (d.file k).b := read_b d k
set_option maxRecDepth 100000 in
set_option maxHeartbeats 8000000 in
theorem sopen1_at {w : World} {p m : Nat} {d : Dk} (h : DiskAt w p m d) (hw : d.writes < 10000000000) (base : Nm) (hb : base.length ≤ 500) (hbo : baseOk base = true) (R : Nat) (hR1 : 100 ≤ R) (hR2 : R ≤ 67108864) (g : Nat) (hg1 : 1 ≤ g) (hg2 : g ≤ 90) (snap : List UInt8) (hsm : smallB snap.length R = true) (hsn : d.has (snapN base) = true) (hfl : (d.file (snapN base)).b = snapB g snap) (hlen : ((rmv d (oldN base g)).1.file (logN base g)).b.length ≤ 1000000) :
    Calls Tryz.prog 7 #[.pointer (some ⟨p, 0, none⟩), .string (str base), .int .i64 R] w (SOpen1P w p m base R g snap (sopen1 d base R g)) := by
  have H := Lib.hid h
  have HRD := Lib.hid (read_at h [] (by decide))
  have HNM := Lib.hid (fun W => storename_any base (by omega) W)
  have HSN := Lib.hid hsn; have HLN := Lib.hid hlen; have HBO := Lib.hid hbo; have HFL := Lib.hid hfl; have HSM := Lib.hid hsm
  have h2 : (((d.read []).2 : Int) == 1) = false := by
    unfold Dk.read
    cases d.has [] <;> rfl
  have hk1 : (snapN base).length ≤ 1000 := by unfold snapN; rw [List.length_append]; show base.length + 5 ≤ _; omega
  have hk2 : (tmpN base).length ≤ 1000 := by unfold tmpN; rw [List.length_append]; show base.length + 4 ≤ _; omega
  have hk3 : ∀ g, (logN base g).length ≤ 1000 := fun g => by
    unfold logN decS
    rw [List.length_append, List.length_append]
    have : bLog.length = 5 := rfl
    split <;> simp <;> omega
  have HK1 := Lib.hid hk1; have HK2 := Lib.hid hk2; have HK3 := Lib.hid hk3
  clear h hsn hlen hk1 hk2 hk3 hbo hfl hsm
  unfold ReadP at HRD
  generalize d.read [] = rr at *
  obtain ⟨rl, rz⟩ := rr
  simp only at HRD h2
  go_enter Tryz.func7, Tryz.ntmps7
  go_wp2_with fail
  refine HRD.out.mono ?_
  rintro e w1 ⟨A1, c1, rfl, hbs, _, _, hbw⟩
  have H1 := Lib.hid (H.out.below hbw); have W1 := Lib.hid (Dw.of_below (p := p) (m := m) hbw)
  have hsz1 := hbw.size
  clear hbs hbw HRD H
  generalize rl.length = rn at *
  go_wp2_with fail
  refine (HNM.out w1).mono ?_
  rintro e w2 ⟨rfl, hw2⟩
  rw [hw2, HBO.out]
  clear hw2
  go_wp2_with fail
  obtain ⟨b0_, hb_⟩ := boxes1 w1 (.cells #[.pointer (some ⟨p, 0, none⟩), .string (str base), .int .i64 R, .int .i64 0, .pointer none, .bool false] 59)
  generalize w1.alloc (.cells #[.pointer (some ⟨p, 0, none⟩), .string (str base), .int .i64 R, .int .i64 0, .pointer none, .bool false] 59) = w3 at *
  have T0b : Hid (∀ W, Below w3.heap.size w3 W → W.heap[w1.heap.size]? = some (.cells #[.pointer (some ⟨p, 0, none⟩), .string (str base), .int .i64 R, .int .i64 0, .pointer none, .bool false] 59 (0, 0))) := Lib.hid (fun W hW => (hW.block _ (lt_blk b0_)).trans b0_)
  have T0 : Hid (∀ W, Below w3.heap.size w3 W → W.cell? ⟨w1.heap.size, 0, none⟩ = some (.pointer (some ⟨p, 0, none⟩)) ∧ W.cell? ⟨w1.heap.size, 1, none⟩ = some (.string (str base)) ∧ W.cell? ⟨w1.heap.size, 2, none⟩ = some (.int .i64 R) ∧ W.cell? ⟨w1.heap.size, 3, none⟩ = some (.int .i64 0) ∧ W.cell? ⟨w1.heap.size, 4, none⟩ = some (.pointer none) ∧ W.cell? ⟨w1.heap.size, 5, none⟩ = some (.bool false)) := Lib.hid (fun W hW => by have e := (hW.block _ (lt_blk b0_)).trans b0_; exact ⟨by rw [cell_blk e]; rfl, by rw [cell_blk e]; rfl, by rw [cell_blk e]; rfl, by rw [cell_blk e]; rfl, by rw [cell_blk e]; rfl, by rw [cell_blk e]; rfl⟩)
  have HB3 := Lib.hid hb_
  clear hb_ b0_
  generalize hs : w1.heap.size = s at *
  have H3 := Lib.hid (H1.out.below (hs ▸ HB3.out)); have W3 := Lib.hid (W1.out.trans (.of_below (hs ▸ HB3.out)))
  have hsz3 := HB3.out.size
  have hps := H1.out.lt
  refine (snapshot_at s base (by omega) w3 (T0.out w3 (Below.refl _ _)).2.1).mono ?_
  rintro e w4 ⟨rfl, hw4⟩
  rw [hw4]
  clear hw4
  have HTH := there_at H3.out (snapN base) (by have := HK1.out; omega)
  rw [HSN.out, read_b, HFL.out] at HTH
  have HTH := Lib.hid HTH
  go_wp2_with fail
  refine HTH.out.mono ?_
  rintro e w5 ⟨A5, c5, rfl, hbs5, _, hc5, hbw⟩
  have H5 := Lib.hid (H3.out.below hbw); have W5 := Lib.hid (W3.out.trans (.of_below hbw)); have HB5 := Lib.hid hbw
  obtain ⟨sn, hsn⟩ : ∃ n, n = (snapB g snap).length := ⟨_, rfl⟩
  rw [← hsn] at hc5 ⊢
  have HRE := Lib.hid (sread_at g hg1 (by omega) snap R hR2 HSM.out sn hsn A5 c5 hc5 w5 hbs5)
  clear hbw HTH hbs5 hsn
  go_wp2_with fail
  refine HRE.out.mono ?_
  rintro e w6 ⟨A6, c6, rfl, hbs6, hz6, hb6⟩
  have H6 := Lib.hid (H5.out.below hb6); have W6 := Lib.hid (W5.out.trans (.of_below hb6)); have HB6 := Lib.hid (HB5.out.trans (hb6.mono HB5.out.size))
  have HS6 : Hid (StoreAt w6 s p base R 0 (.pointer none) false) := Lib.hid (T0b.out w6 HB6.out)
  have HBS6 := Lib.hid hbs6; have HZ6 := Lib.hid hz6
  obtain ⟨t0, t1, t2, t3, t4, t5⟩ := HS6.out.cells (Below.refl _ _)
  have fz := fun i => free_blk HS6.out i
  clear hb6 hbs6 hz6 HRE T0 T0b
  obtain ⟨k, hk⟩ : ∃ k, k = snap.length := ⟨_, rfl⟩
  have HK := Lib.hid hk
  rw [← hk]
  clear hk
  have hsp : s ≠ p := by omega
  have HD7 : Hid (DiskAt (w6.setCell ⟨s, 3, none⟩ (.int .i64 (g : Nat))) p m d) := Lib.hid (H6.out.set t3 rfl hsp _)
  have HS7 : Hid (StoreAt (w6.setCell ⟨s, 3, none⟩ (.int .i64 (g : Nat))) s p base R (g : Nat) (.pointer none) false) := Lib.hid (set_blk HS6.out 3 _)
  have HW7 : Hid (Dw w (w6.setCell ⟨s, 3, none⟩ (.int .i64 (g : Nat))) p m) := Lib.hid (W6.out.new (((Ow.refl w6 s).set 3 (.int .i64 (g : Nat))).dw m) (by omega))
  have HBS7 : Hid (Bs (w6.setCell ⟨s, 3, none⟩ (.int .i64 (g : Nat))) (w6.setCell ⟨s, 3, none⟩ (.int .i64 (g : Nat))).heap.size A6 snap) := Lib.hid ((((Ow.refl w6 s).set 3 (.int .i64 (g : Nat))).bw.bs (fun k hk => by
    simp only [List.mem_singleton] at hk
    subst hk
    exact (HS6.out.noSl (.inl rfl)).1) (Nat.le_refl _) HBS6.out).more (by rw [World.size_setCell]; exact Nat.le_refl _))
  go_upto_region 14 with (fail)
  obtain ⟨w7, hw7⟩ : ∃ w7, w7 = w6.setCell ⟨s, 3, none⟩ (.int .i64 (g : Nat)) := ⟨_, rfl⟩
  rw [← hw7] at HD7 HS7 HW7 HBS7 ⊢
  clear hw7 t0 t1 t2 t3 t4 t5 fz HS6 HBS6
  have hs7 : s < w7.heap.size := lt_blk HS7.out
  obtain ⟨u0, u1, u2, u3, u4, u5⟩ := HS7.out.cells (Below.refl _ _)
  go_wp2_with fail
  refine (draft_at s base (by omega) w7 u1).mono ?_
  rintro e w8 ⟨rfl, hw8⟩
  rw [hw8]
  clear hw8
  have y7 := fun o => HS7.out.cells (below_alloc w7 o)
  go_wp2_with fail
  obtain ⟨hbx, hby⟩ := boxes1 w7 (.cells #[.string (str (tmpN base))] 9)
  have HX8 := Lib.hid hbx; have HB8 := Lib.hid hby; have HZ8 := Lib.hid hby.size
  have HCE := Lib.hid (fun W (hW : Below w7.heap.size w7 W) => HS7.out.cells hW)
  have HSB := Lib.hid (fun W (hW : Below w7.heap.size w7 W) => HS7.out.below hW)
  have HDB := Lib.hid (fun W (hW : Below w7.heap.size w7 W) => (⟨HD7.out.below hW, HW7.out.trans (.of_below hW), (HBS7.out.below hW).more hW.size⟩ : DiskAt W p m d ∧ Dw w W p m ∧ Bs W W.heap.size A6 snap))
  clear y7 u0 u1 u2 u3 u4 u5
  generalize w7.alloc (.cells #[.string (str (tmpN base))] 9) = w8 at *
  have HO8 := Lib.hid (own_lit (B := w7.heap.size) (Nat.le_refl _) HX8.out)
  generalize hg7 : w7.heap.size = g7 at *
  clear hbx hby hg7
  rw [show ((g : Int) - 1) = ((g - 1 : Nat) : Int) by omega]
  refine (logof_at s base (by omega) (g - 1) (by omega) w8 (fun W hW => (HCE.out W (HB8.out.trans (hW.mono HZ8.out))).2.1)).mono ?_
  rintro e w9 ⟨rfl, hb9⟩
  have HB9 := Lib.hid (HB8.out.trans (hb9.mono HZ8.out))
  have HO9 := Lib.hid (own_below HO8.out hb9)
  have HZ9 : Hid (g7 ≤ w9.heap.size) := Lib.hid (Nat.le_trans HZ8.out hb9.size)
  clear hb9 HX8 HO8
  have u9 := (HCE.out w9 HB9.out).2.2.2.1
  go_wp2_with (at_builtin; refine wpList_append_one0 EStr rfl (.tmp 74) (.tmp 82) rfl g7 (.string (str (logN base (g - 1)))) rfl _ 1 [.string (str (tmpN base))] rfl HO9.out rfl (by omega) (by decide) w9 HZ9.out (Below.refl _ _) ?_; intro v10 w10 h2 h3 h4 h5; have O10 := Lib.hid h2; have B10 := Lib.hid (HB9.out.trans h3); have Z10 : Hid (g7 ≤ w10.heap.size) := Lib.hid (Nat.le_trans HZ9.out h3.size); have u10 := (HCE.out w10 B10.out).2.2.2.1; clear h2 h3 h4 h5; obtain ⟨A10, c10, rfl, _⟩ := own_rd O10.out)
  rw [show ((g : Int) + 1) = ((g + 1 : Nat) : Int) by omega]
  refine (logof_at s base (by omega) (g + 1) (by omega) w10 (fun W hW => (HCE.out W (B10.out.trans (hW.mono Z10.out))).2.1)).mono ?_
  rintro e w11 ⟨rfl, hb11⟩
  have HB11 := Lib.hid (B10.out.trans (hb11.mono Z10.out))
  have HO11 := Lib.hid (own_below O10.out hb11)
  have HZ11 : Hid (g7 ≤ w11.heap.size) := Lib.hid (Nat.le_trans Z10.out hb11.size)
  clear hb11 O10 u9 u10
  go_wp2_with (at_builtin; refine wpList_append_one0 EStr rfl (.tmp 85) (.tmp 93) rfl g7 (.string (str (logN base (g + 1)))) rfl _ 2 [.string (str (tmpN base)), .string (str (logN base (g - 1)))] rfl HO11.out rfl (by omega) (by decide) w11 HZ11.out (Below.refl _ _) ?_; intro v12 w12 h2 h3 h4 h5; have O12 := Lib.hid h2; have B12 := Lib.hid (HB11.out.trans h3); have Z12 : Hid (g7 ≤ w12.heap.size) := Lib.hid (Nat.le_trans HZ11.out h3.size); clear h2 h3 h4 h5; obtain ⟨A12, c12, rfl, hr12, _, _⟩ := own_rd O12.out; have R12 := Lib.hid hr12; clear hr12)
  obtain ⟨hd12, hw12, hbs12⟩ := HDB.out w12 B12.out
  have H12 := Lib.hid hd12; have W12 := Lib.hid hw12; have HBS12 := Lib.hid hbs12
  have HRM := Lib.hid (rmv_at H12.out (by omega) (oldN base g) 3 rfl (by decide) (fun k hk => by
    simp only [oldN, List.mem_cons, List.not_mem_nil, or_false] at hk
    rcases hk with rfl | rfl | rfl
    · have := HK2.out; omega
    · have := HK3.out (g - 1); omega
    · have := HK3.out (g + 1); omega) A12 c12 (Nrow.of_rd (by exact R12.out)))
  have hrw := rmv_writes (oldN base g) d
  simp only [oldN, List.length_cons, List.length_nil] at hrw
  have HS12 := Lib.hid (HSB.out w12 B12.out)
  unfold DiskP at HRM
  have HDF2 : Hid (sopen1 d base R g = if (rmv d (oldN base g)).2 ≠ 0 then ⟨(rmv d (oldN base g)).1, none, [], (rmv d (oldN base g)).2⟩
    else if (lopen (rmv d (oldN base g)).1 (logN base g) ((R / 3 : Nat) : Int)).e ≠ 0 then ⟨(lopen (rmv d (oldN base g)).1 (logN base g) ((R / 3 : Nat) : Int)).d, none, [], (lopen (rmv d (oldN base g)).1 (logN base g) ((R / 3 : Nat) : Int)).e⟩
    else ⟨(lopen (rmv d (oldN base g)).1 (logN base g) ((R / 3 : Nat) : Int)).d, (lopen (rmv d (oldN base g)).1 (logN base g) ((R / 3 : Nat) : Int)).l, (lopen (rmv d (oldN base g)).1 (logN base g) ((R / 3 : Nat) : Int)).ls, 0⟩) := Lib.hid rfl
  have hrw2 : (rmv d (oldN base g)).1.writes ≤ d.writes + 3 := hrw
  clear hrw hd12 hw12 hbs12
  generalize rmv d (oldN base g) = rm at *
  obtain ⟨d2, z⟩ := rm
  simp only at HRM HLN HDF2 hrw2
  clear HCE HSB HDB HS7 HD7 HW7 HBS7
  go_wp2_with fail
  refine HRM.out.mono ?_
  rintro e w13 ⟨rfl, h13, hw13⟩
  have H13 := Lib.hid h13; have W13 := Lib.hid (W12.out.trans hw13); have S13 := Lib.hid (HS12.out.keep H12.out hw13)
  have HBS13 := Lib.hid ((hw13.bw.bs H12.out.noBytes (Nat.le_refl _) HBS12.out).more hw13.size)
  clear h13 hw13 HRM HS12
  by_cases hz : z = 0
  rotate_left
  · have HE : Hid (sopen1 d base R g = ⟨d2, none, [], z⟩) := Lib.hid (by rw [HDF2.out, if_pos hz])
    have g0 : ((z : Int) != 0) = true := by rw [bne_iff_ne]; omega
    have HZN := Lib.hid hz
    clear hz
    go_wp2_with fail
    (try simp only [Exit.inBlock, Exit.then])
    refine bodyPost_ret (results_tmp4 rfl _ _ _) rfl ?_
    rw [HE.out]
    exact ⟨H13.out, W13.out, .inl ⟨HZN.out, rfl, rfl⟩⟩
  subst hz
  obtain ⟨q0, q1, q2, q3, q4, q5⟩ := S13.out.cells (Below.refl _ _)
  go_wp2_with fail
  refine (logof_at s base (by omega) g (by omega) w13 (fun W hW => (S13.out.cells hW).2.1)).mono ?_
  rintro e w14 ⟨rfl, hb14⟩
  have H14 := Lib.hid (H13.out.below hb14); have W14 := Lib.hid (W13.out.trans (.of_below hb14)); have S14 := Lib.hid (S13.out.below hb14)
  have HBS14 := Lib.hid ((HBS13.out.below hb14).more hb14.size)
  clear hb14 q0 q1 q2 q3 q4 q5
  have HLO := Lib.hid (open_at H14.out (by omega) (logN base g) (by have := HK3.out g; omega) ((R / 3 : Nat) : Int) HLN.out)
  have hsome := fun (h : (lopen d2 (logN base g) ((R / 3 : Nat) : Int)).e = 0) => lopen_some h
  have HSOME := Lib.hid hsome
  clear hsome
  generalize lopen d2 (logN base g) ((R / 3 : Nat) : Int) = lo at *
  obtain ⟨dl, ll, lls, le⟩ := lo
  simp only at HDF2 HSOME
  go_wp2_with fail
  rw [show ((R : Int) / 3) = ((R / 3 : Nat) : Int) by omega]
  refine HLO.out.mono ?_
  rintro e w15 ⟨hd15, hw15, pv, A, c, rfl, hls, hA0, hc, hlv⟩
  have H15 := Lib.hid hd15; have W15 := Lib.hid (W14.out.trans hw15); have S15 := Lib.hid (S14.out.keep H14.out hw15)
  have HBS15 := Lib.hid ((hw15.bw.bs H14.out.noBytes (Nat.le_refl _) HBS14.out).more hw15.size)
  have HLS := Lib.hid hls; have HA0 := Lib.hid hA0; have HC := Lib.hid hc
  have hsz14 := W14.out.size
  have hs14 := lt_blk S14.out
  clear hd15 hw15 hls hA0 hc HLO
  simp only at H15 HLS HA0 HC hlv ⊢
  by_cases hle : le = 0
  rotate_left
  · have g0 : ((le : Int) != 0) = true := by rw [bne_iff_ne]; omega
    have HE : Hid (sopen1 d base R g = ⟨dl, none, [], le⟩) := Lib.hid (by rw [HDF2.out, if_neg (fun h => h rfl), if_pos hle])
    have HZN := Lib.hid hle
    generalize lls.length = nl at *
    clear hlv hle
    go_wp2_with fail
    (try simp only [Exit.inBlock, Exit.then])
    refine bodyPost_ret (results_tmp4 rfl _ _ _) rfl ?_
    rw [HE.out]
    exact ⟨H15.out, W15.out, .inl ⟨HZN.out, rfl, rfl⟩⟩
  subst hle
  obtain ⟨L, hL⟩ := HSOME.out rfl
  subst hL
  obtain ⟨q, rfl, hlog, hq⟩ := hlv
  have HLG := Lib.hid hlog
  have hc4 := (S15.out.cells (Below.refl _ _)).2.2.2.2.1
  have fz := fun i => free_blk S15.out i
  have HE : Hid (sopen1 d base R g = ⟨dl, some L, lls, 0⟩) := Lib.hid (by rw [HDF2.out, if_neg (fun h => h rfl), if_neg (fun h => h rfl)])
  have hsq : s ≠ q := by omega
  have HD16 : Hid (DiskAt (w15.setCell ⟨s, 4, none⟩ (.pointer (some ⟨q, 0, none⟩))) p m dl) := Lib.hid (H15.out.set hc4 rfl hsp _)
  have HS16 : Hid (StoreAt (w15.setCell ⟨s, 4, none⟩ (.pointer (some ⟨q, 0, none⟩))) s p base R (g : Nat) (.pointer (some ⟨q, 0, none⟩)) false) := Lib.hid (set_blk S15.out 4 _)
  have HG16 : Hid (LogAt (w15.setCell ⟨s, 4, none⟩ (.pointer (some ⟨q, 0, none⟩))) q p L) := Lib.hid ((Below.heap_setCell _ _ _ _ (by simpa using hsq.symm)).trans HLG.out)
  have HW16 : Hid (Dw w (w15.setCell ⟨s, 4, none⟩ (.pointer (some ⟨q, 0, none⟩))) p m) := Lib.hid (W15.out.new (((Ow.refl w15 s).set 4 (.pointer (some ⟨q, 0, none⟩))).dw m) (by omega))
  have HBS16 : Hid (Bs (w15.setCell ⟨s, 4, none⟩ (.pointer (some ⟨q, 0, none⟩))) (w15.setCell ⟨s, 4, none⟩ (.pointer (some ⟨q, 0, none⟩))).heap.size A6 snap) := Lib.hid ((((Ow.refl w15 s).set 4 (.pointer (some ⟨q, 0, none⟩))).bw.bs (fun k hk => by
    simp only [List.mem_singleton] at hk
    subst hk
    exact (S15.out.noSl (.inl rfl)).1) (Nat.le_refl _) HBS15.out).more (by rw [World.size_setCell]; exact Nat.le_refl _))
  have HLS16 : Hid (Ls (w15.setCell ⟨s, 4, none⟩ (.pointer (some ⟨q, 0, none⟩))) (w15.setCell ⟨s, 4, none⟩ (.pointer (some ⟨q, 0, none⟩))).heap.size A lls) := Lib.hid ((((Ow.refl w15 s).set 4 (.pointer (some ⟨q, 0, none⟩))).bw.ls (fun k hk => by
    simp only [List.mem_singleton] at hk
    subst hk
    exact S15.out.noSl (.inl rfl)) (Nat.le_refl _) HLS.out).more (by rw [World.size_setCell]; exact Nat.le_refl _))
  clear hlog
  obtain ⟨nl, hnl⟩ : ∃ nl, nl = lls.length := ⟨_, rfl⟩
  have HNL := Lib.hid hnl
  rw [← hnl]
  clear hnl
  have hws : w.heap.size ≤ s := by have := W1.out.size; omega
  have hwq : w.heap.size ≤ q := by omega
  go_wp2_with fail
  (try simp only [Exit.inBlock, Exit.then])
  refine bodyPost_ret (results_tmp4 rfl _ _ _) rfl ?_
  rw [HE.out]
  have hnl := HNL.out
  subst hnl
  exact ⟨HD16.out, HW16.out, .inr ⟨rfl, .pointer (some ⟨s, 0, none⟩), A6, c6, A, c, by rw [← HK.out]; rfl, HBS16.out, HZ6.out, HLS16.out, HA0.out, HC.out, s, q, rfl, HS16.out, HG16.out, hws, hwq, hsq⟩⟩
end Go.Proofs.YtegekaocbalndaaGreatDoor
end

section
set_option linter.unusedSimpArgs false
set_option linter.unusedVariables false
namespace Go.Proofs.YtegekaocbalndaaGreatDoor
open Go.RowKit

/-- a variable that a closure has: the store's address. -/
structure Cap (w : World) (v s q p m : Nat) (base : Nm) (R g : Int) (b : Bool) (d : Dk) (L : Lg) : Prop where
  sto : Sto w s q p m base R g b d L
  var : ∃ cs T, w.heap[v]? = some (.cells cs T (0, 0)) ∧ cs[0]? = some (.pointer (some ⟨s, 0, none⟩))
theorem Cap.below {w w' : World} {v s q p m : Nat} {base : Nm} {R g : Int} {b : Bool} {d : Dk} {L : Lg} (h : Cap w v s q p m base R g b d L) (hb : Below w.heap.size w w') : Cap w' v s q p m base R g b d L := by
  obtain ⟨cs, T, h1, h2⟩ := h.var
  exact ⟨h.sto.below hb, cs, T, (hb.block v (lt_blk h1)).trans h1, h2⟩
theorem Cap.cells {w W : World} {v s q p m : Nat} {base : Nm} {R g : Int} {b : Bool} {d : Dk} {L : Lg} (h : Cap w v s q p m base R g b d L) (hb : Below w.heap.size w W) : W.cell? ⟨v, 0, none⟩ = some (.pointer (some ⟨s, 0, none⟩)) ∧ W.cell? ⟨s, 0, none⟩ = some (.pointer (some ⟨p, 0, none⟩)) ∧ W.cell? ⟨s, 1, none⟩ = some (.string (str base)) ∧ W.cell? ⟨s, 2, none⟩ = some (.int .i64 R) ∧ W.cell? ⟨s, 3, none⟩ = some (.int .i64 g) := by
  obtain ⟨cs, T, h1, h2⟩ := h.var
  obtain ⟨c0, c1, c2, c3, _⟩ := h.sto.st.cells hb
  refine ⟨?_, c0, c1, c2, c3⟩
  rw [cell_blk ((hb.block v (lt_blk h1)).trans h1)]
  exact h2
theorem tmpN_len {base : Nm} (hb : base.length ≤ 500) : (tmpN base).length ≤ 1000 := by unfold tmpN; rw [List.length_append]; show base.length + 4 ≤ _; omega
theorem snapN_len {base : Nm} (hb : base.length ≤ 500) : (snapN base).length ≤ 1000 := by unfold snapN; rw [List.length_append]; show base.length + 5 ≤ _; omega
set_option maxRecDepth 100000 in
set_option maxHeartbeats 4000000 in
theorem comp3_at {w : World} {v s q p m : Nat} {base : Nm} {R g : Int} {b : Bool} {d : Dk} {L : Lg} (h : Cap w v s q p m base R g b d L) (hb : base.length ≤ 500) (hw : d.writes < 10000000000) :
    Calls Tryz.prog 43 #[.pointer (some ⟨v, 0, none⟩)] w (DiskP w p m (d.sync (tmpN base))) := by
  have T := Lib.hid (fun W (hW : Below w.heap.size w W) => h.cells hW)
  have H := Lib.hid h.sto.disk
  have DP : Hid (∀ W, Below w.heap.size w W → Calls Tryz.prog 28 #[.pointer (some ⟨s, 0, none⟩)] W fun e W' => ∃ v, e = .returned v ∧ Below W.heap.size W W' ∧ ttHolds (.inl (.string (str (tmpN base)))) v W') := Lib.hid (fun W hW =>
    (draft_at s base (by omega) W (T.out W hW).2.2.1).mono fun e w' ⟨h1, h2⟩ => ⟨_, h1, by rw [h2]; exact Below.refl _ _, rfl⟩)
  have HSY := Lib.hid (fun W (hW : Below w.heap.size w W) => sync_at (H.out.below hW) (by omega) (tmpN base) (by have := tmpN_len hb; omega))
  have HDW := Lib.hid (fun W (hW : Below w.heap.size w W) => (Dw.of_below hW : Dw w W p m))
  clear h H
  generalize d.sync (tmpN base) = r at *
  go_enter Tryz.func43, Tryz.ntmps43
  go_upto_region 1 with (fail)
  apply wp_region_relH (H := []) 6 [(Sum.inl _ : TT), (Sum.inl _ : TT), (Sum.inl _ : TT), (Sum.inl _ : TT), (Sum.inl _ : TT), (Sum.inl _ : TT)] (by kernel_rfl) (by kernel_rfl) (fun _ _ _ _ _ h => h) rfl
  simp only [List.take_succ_cons, List.take_zero, List.drop_succ_cons, List.drop_zero]
  iterate 5 (apply rel_isS; (intro W hW hf; obtain ⟨x0, x1, x2, x3, x4⟩ := T.out W hW; go_simp; first | exact ⟨StayS.refl _ _, rfl⟩ | rfl); simp only [Act.put, List.setIfInBounds_toArray, List.set_cons_succ, List.set_cons_zero])
  apply rel_isS
  · intro W hW hf
    exact rel_callS hW rfl (by go_simp <;> first | rfl | exact ⟨rfl, rfl⟩ | exact ⟨rfl, rfl, rfl⟩) (DP.out W hW)
  simp only [Act.put, List.setIfInBounds_toArray, List.set_cons_succ, List.set_cons_zero]
  refine rel_endS ?_
  intro W hW hf
  try simp only [Act.put, List.setIfInBounds_toArray, List.set_cons_succ, List.set_cons_zero]
  have HW := Lib.hid hW
  have HS := Lib.hid (HSY.out W hW)
  clear hW hf T DP HSY
  unfold DiskP at HS
  go_wp2_with fail
  refine HS.out.mono ?_
  rintro e w2 ⟨rfl, hd, hdw⟩
  have HD := Lib.hid hd; have HDW2 := Lib.hid ((HDW.out W HW.out).trans hdw)
  clear hd hdw
  go_wp2_with fail
  go_ret
  exact ⟨rfl, HD.out, HDW2.out⟩
set_option maxRecDepth 100000 in
set_option maxHeartbeats 4000000 in
theorem comp2_at {w : World} {v s q p m : Nat} {base : Nm} {R g : Int} {b : Bool} {d : Dk} {L : Lg} (h : Cap w v s q p m base R g b d L) (hb : base.length ≤ 500) (hw : d.writes < 10000000000) (f : List UInt8) (n : Nat) (hn : n = f.length) (hn2 : n ≤ 100000000) (u : Nat) (C : Option Addr) (capb : Nat) (hu : w.cell? ⟨u, 0, none⟩ = some (.slice C n capb)) (hC : Bs w w.heap.size C f) (hC0 : C = none → f = []) :
    Calls Tryz.prog 41 #[.pointer (some ⟨v, 0, none⟩), .pointer (some ⟨u, 0, none⟩)] w (DiskP w p m (d.append (tmpN base) f)) := by
  have T := Lib.hid (fun W (hW : Below w.heap.size w W) => (⟨h.cells hW, (hW.cell (p := ⟨u, 0, none⟩) (World.block_lt_of_cell? _ _ hu)).trans hu⟩ : _ ∧ W.cell? ⟨u, 0, none⟩ = some (.slice C n capb)))
  have H := Lib.hid h.sto.disk
  have DP : Hid (∀ W, Below w.heap.size w W → Calls Tryz.prog 28 #[.pointer (some ⟨s, 0, none⟩)] W fun e W' => ∃ v, e = .returned v ∧ Below W.heap.size W W' ∧ ttHolds (.inl (.string (str (tmpN base)))) v W') := Lib.hid (fun W hW =>
    (draft_at s base (by omega) W (T.out W hW).1.2.2.1).mono fun e w' ⟨h1, h2⟩ => ⟨_, h1, by rw [h2]; exact Below.refl _ _, rfl⟩)
  have HSY := Lib.hid (fun W (hW : Below w.heap.size w W) => append_at (H.out.below hW) (by omega) (tmpN base) (by have := tmpN_len hb; omega) f n hn hn2 C capb ((hC.below hW).more hW.size) hC0)
  have HDW := Lib.hid (fun W (hW : Below w.heap.size w W) => (Dw.of_below hW : Dw w W p m))
  clear h H hu hC hC0 hn
  generalize d.append (tmpN base) f = r at *
  go_enter Tryz.func41, Tryz.ntmps41
  go_upto_region 1 with (fail)
  apply wp_region_relH (H := []) 7 [(Sum.inl _ : TT), (Sum.inl _ : TT), (Sum.inl _ : TT), (Sum.inl _ : TT), (Sum.inl _ : TT), (Sum.inl _ : TT), (Sum.inl _ : TT)] (by kernel_rfl) (by kernel_rfl) (fun _ _ _ _ _ h => h) rfl
  simp only [List.take_succ_cons, List.take_zero, List.drop_succ_cons, List.drop_zero]
  iterate 5 (apply rel_isS; (intro W hW hf; obtain ⟨⟨x0, x1, x2, x3, x4⟩, x5⟩ := T.out W hW; go_simp; first | exact ⟨StayS.refl _ _, rfl⟩ | rfl); simp only [Act.put, List.setIfInBounds_toArray, List.set_cons_succ, List.set_cons_zero])
  apply rel_isS
  · intro W hW hf
    exact rel_callS hW rfl (by go_simp <;> first | rfl | exact ⟨rfl, rfl⟩ | exact ⟨rfl, rfl, rfl⟩) (DP.out W hW)
  simp only [Act.put, List.setIfInBounds_toArray, List.set_cons_succ, List.set_cons_zero]
  iterate 1 (apply rel_isS; (intro W hW hf; obtain ⟨⟨x0, x1, x2, x3, x4⟩, x5⟩ := T.out W hW; go_simp; first | exact ⟨StayS.refl _ _, rfl⟩ | rfl); simp only [Act.put, List.setIfInBounds_toArray, List.set_cons_succ, List.set_cons_zero])
  refine rel_endS ?_
  intro W hW hf
  try simp only [Act.put, List.setIfInBounds_toArray, List.set_cons_succ, List.set_cons_zero]
  have HW := Lib.hid hW
  have HS := Lib.hid (HSY.out W hW)
  clear hW hf T DP HSY
  unfold DiskP at HS
  go_wp2_with fail
  refine HS.out.mono ?_
  rintro e w2 ⟨rfl, hd, hdw⟩
  have HD := Lib.hid hd; have HDW2 := Lib.hid ((HDW.out W HW.out).trans hdw)
  clear hd hdw
  go_wp2_with fail
  go_ret
  exact ⟨rfl, HD.out, HDW2.out⟩
set_option maxRecDepth 100000 in
set_option maxHeartbeats 4000000 in
theorem comp4_at {w : World} {v s q p m : Nat} {base : Nm} {R g : Int} {b : Bool} {d : Dk} {L : Lg} (h : Cap w v s q p m base R g b d L) (hb : base.length ≤ 500) (hw : d.writes < 10000000000) :
    Calls Tryz.prog 45 #[.pointer (some ⟨v, 0, none⟩)] w (DiskP w p m (d.rename (tmpN base) (snapN base))) := by
  have T := Lib.hid (fun W (hW : Below w.heap.size w W) => h.cells hW)
  have H := Lib.hid h.sto.disk
  have DP : Hid (∀ W, Below w.heap.size w W → Calls Tryz.prog 28 #[.pointer (some ⟨s, 0, none⟩)] W fun e W' => ∃ v, e = .returned v ∧ Below W.heap.size W W' ∧ ttHolds (.inl (.string (str (tmpN base)))) v W') := Lib.hid (fun W hW =>
    (draft_at s base (by omega) W (T.out W hW).2.2.1).mono fun e w' ⟨h1, h2⟩ => ⟨_, h1, by rw [h2]; exact Below.refl _ _, rfl⟩)
  have SP : Hid (∀ W, Below w.heap.size w W → Calls Tryz.prog 26 #[.pointer (some ⟨s, 0, none⟩)] W fun e W' => ∃ v, e = .returned v ∧ Below W.heap.size W W' ∧ ttHolds (.inl (.string (str (snapN base)))) v W') := Lib.hid (fun W hW =>
    (snapshot_at s base (by omega) W (T.out W hW).2.2.1).mono fun e w' ⟨h1, h2⟩ => ⟨_, h1, by rw [h2]; exact Below.refl _ _, rfl⟩)
  have HSY := Lib.hid (fun W (hW : Below w.heap.size w W) => rename_at (H.out.below hW) (by omega) (tmpN base) (by have := tmpN_len hb; omega) (snapN base) (by have := snapN_len hb; omega))
  have HDW := Lib.hid (fun W (hW : Below w.heap.size w W) => (Dw.of_below hW : Dw w W p m))
  clear h H
  generalize d.rename (tmpN base) (snapN base) = r at *
  go_enter Tryz.func45, Tryz.ntmps45
  go_upto_region 1 with (fail)
  apply wp_region_relH (H := []) 8 [(Sum.inl _ : TT), (Sum.inl _ : TT), (Sum.inl _ : TT), (Sum.inl _ : TT), (Sum.inl _ : TT), (Sum.inl _ : TT), (Sum.inl _ : TT), (Sum.inl _ : TT)] (by kernel_rfl) (by kernel_rfl) (fun _ _ _ _ _ h => h) rfl
  simp only [List.take_succ_cons, List.take_zero, List.drop_succ_cons, List.drop_zero]
  iterate 5 (apply rel_isS; (intro W hW hf; obtain ⟨x0, x1, x2, x3, x4⟩ := T.out W hW; go_simp; first | exact ⟨StayS.refl _ _, rfl⟩ | rfl); simp only [Act.put, List.setIfInBounds_toArray, List.set_cons_succ, List.set_cons_zero])
  apply rel_isS
  · intro W hW hf
    exact rel_callS hW rfl (by go_simp <;> first | rfl | exact ⟨rfl, rfl⟩ | exact ⟨rfl, rfl, rfl⟩) (DP.out W hW)
  simp only [Act.put, List.setIfInBounds_toArray, List.set_cons_succ, List.set_cons_zero]
  iterate 1 (apply rel_isS; (intro W hW hf; obtain ⟨x0, x1, x2, x3, x4⟩ := T.out W hW; go_simp; first | exact ⟨StayS.refl _ _, rfl⟩ | rfl); simp only [Act.put, List.setIfInBounds_toArray, List.set_cons_succ, List.set_cons_zero])
  apply rel_isS
  · intro W hW hf
    exact rel_callS hW rfl (by go_simp <;> first | rfl | exact ⟨rfl, rfl⟩ | exact ⟨rfl, rfl, rfl⟩) (SP.out W hW)
  simp only [Act.put, List.setIfInBounds_toArray, List.set_cons_succ, List.set_cons_zero]
  refine rel_endS ?_
  intro W hW hf
  try simp only [Act.put, List.setIfInBounds_toArray, List.set_cons_succ, List.set_cons_zero]
  have HW := Lib.hid hW
  have HS := Lib.hid (HSY.out W hW)
  clear hW hf T DP SP HSY
  unfold DiskP at HS
  go_wp2_with fail
  refine HS.out.mono ?_
  rintro e w2 ⟨rfl, hd, hdw⟩
  have HD := Lib.hid hd; have HDW2 := Lib.hid ((HDW.out W HW.out).trans hdw)
  clear hd hdw
  go_wp2_with fail
  go_ret
  exact ⟨rfl, HD.out, HDW2.out⟩
theorem logN_len {base : Nm} (hb : base.length ≤ 500) (g : Nat) : (logN base g).length ≤ 1000 := by
  unfold logN decS
  rw [List.length_append, List.length_append]
  have : bLog.length = 5 := rfl
  split <;> simp <;> omega
theorem nrow_lit {W : World} {ks : List Nm} {cs : Array Value} (hc : cs = (ks.map fun k => Value.string (str k)).toArray) : Nrow (W.alloc (.cells cs 9)) (W.alloc (.cells cs 9)).heap.size (some ⟨W.heap.size, 0, none⟩) ks := fun i hi => by
  subst hc
  refine ⟨W.heap.size, 0, rfl, by simp, ?_⟩
  rw [cell_blk (heap_alloc_new _ _)]
  simp [hi, List.getD_eq_getElem?_getD]
end Go.Proofs.YtegekaocbalndaaGreatDoor
end

section
set_option linter.unusedSimpArgs false
set_option linter.unusedVariables false
namespace Go.Proofs.YtegekaocbalndaaGreatDoor
open Go.RowKit

set_option maxRecDepth 100000 in
set_option maxHeartbeats 4000000 in
theorem comp1_at {w : World} {v s q p m : Nat} {base : Nm} {R : Int} {g : Nat} {b : Bool} {d : Dk} {L : Lg} (h : Cap w v s q p m base R (g : Nat) b d L) (hb : base.length ≤ 500) (hw : d.writes < 10000000000) (hg : g ≤ 90) :
    Calls Tryz.prog 40 #[.pointer (some ⟨v, 0, none⟩)] w (DiskP w p m (rmv d [tmpN base, logN base (g + 1)])) := by
  have T := Lib.hid (fun W (hW : Below w.heap.size w W) => h.cells hW)
  have H := Lib.hid h.sto.disk
  have DP : Hid (∀ W, Below w.heap.size w W → Calls Tryz.prog 28 #[.pointer (some ⟨s, 0, none⟩)] W fun e W' => e = .returned (.string (str (tmpN base))) ∧ Below w.heap.size w W' ∧ Below W.heap.size W W') := Lib.hid (fun W hW =>
    (draft_at s base (by omega) W (T.out W hW).2.2.1).mono fun e w' ⟨h1, h2⟩ => ⟨h1, by rw [h2]; exact hW, by rw [h2]; exact Below.refl _ _⟩)
  have LP : Hid (∀ W, Below w.heap.size w W → Calls Tryz.prog 29 #[.pointer (some ⟨s, 0, none⟩), .int .i64 ((g : Int) + 1)] W fun e W' => e = .returned (.string (str (logN base (g + 1)))) ∧ Below w.heap.size w W' ∧ Below W.heap.size W W') := Lib.hid (fun W hW => by
    have := logof_at s base (by omega) (g + 1) (by omega) W (fun W' hW' => (T.out W' (hW.trans (hW'.mono hW.size))).2.2.1)
    rw [show ((g + 1 : Nat) : Int) = (g : Int) + 1 by omega] at this
    exact this.mono fun e w' ⟨h1, h2⟩ => ⟨h1, hW.trans (h2.mono hW.size), h2⟩)
  have HRM := Lib.hid (fun W (hW : Below w.heap.size w W) A c (hA : Nrow W W.heap.size A [tmpN base, logN base (g + 1)]) => rmv_at (H.out.below hW) (by omega) [tmpN base, logN base (g + 1)] 2 rfl (by decide) (fun k hk => by
    simp only [List.mem_cons, List.not_mem_nil, or_false] at hk
    rcases hk with rfl | rfl
    · have := tmpN_len hb; omega
    · have := logN_len hb (g + 1); omega) A c hA)
  have HDW := Lib.hid (fun W (hW : Below w.heap.size w W) => (Dw.of_below hW : Dw w W p m))
  have hwg : IntKind.i64.wrap ((g : Int) + 1) = (g : Int) + 1 := wi64 _ (by omega) (by omega)
  clear h H
  generalize rmv d [tmpN base, logN base (g + 1)] = r at *
  go_enter Tryz.func40, Tryz.ntmps40
  go_upto_region 1 with (fail)
  apply wp_region_relG (fun W => Below w.heap.size w W) (fun W => True) (fun _ _ => True) 14 [(Sum.inl _ : TG), (Sum.inl _ : TG), (Sum.inl _ : TG), (Sum.inl _ : TG), (Sum.inl _ : TG), (Sum.inl _ : TG), (Sum.inl _ : TG), (Sum.inl _ : TG), (Sum.inl _ : TG), (Sum.inl _ : TG), (Sum.inl _ : TG), (Sum.inl _ : TG), (Sum.inl _ : TG), (Sum.inr (fun _ _ => True, some (fun v W => W.ownsRow w.heap.size 9 1 v 2 [.string (str (tmpN base)), .string (str (logN base (g + 1)))])) : TG)] [false, false, false, false, false, false, false, false, false, false, false, false, false, true] (by kernel_rfl) (by kernel_rfl) (by kernel_rfl) rfl rfl (fun _ _ _ => trivial) (fun _ _ h _ => h) ((Below.refl _ _).drew) (trivial)
  simp only [List.take_succ_cons, List.take_zero, List.drop_succ_cons, List.drop_zero]
  iterate 5 (apply rel_isG; (intro W hW hf; obtain ⟨x0, x1, x2, x3, x4⟩ := T.out W hW; go_simp; first | exact ⟨⟨hW, Below.refl _ _⟩, rfl⟩ | exact ⟨Below.refl _ _, rfl⟩ | rfl); simp only [Act.put, List.setIfInBounds_toArray, List.set_cons_succ, List.set_cons_zero])
  apply rel_isG
  · intro W hW hf
    exact rel_callV rfl (by go_simp <;> exact ⟨rfl, rfl⟩) (DP.out W hW)
  simp only [Act.put, List.setIfInBounds_toArray, List.set_cons_succ, List.set_cons_zero]
  iterate 6 (apply rel_isG; (intro W hW hf; obtain ⟨x0, x1, x2, x3, x4⟩ := T.out W hW; go_simp; first | exact ⟨⟨hW, Below.refl _ _⟩, rfl⟩ | exact ⟨Below.refl _ _, rfl⟩ | rfl); simp only [Act.put, List.setIfInBounds_toArray, List.set_cons_succ, List.set_cons_zero])
  apply rel_isG
  · intro W hW hf
    exact rel_callV rfl (by go_simp <;> exact ⟨rfl, rfl⟩) (LP.out W hW)
  simp only [Act.put, List.setIfInBounds_toArray, List.set_cons_succ, List.set_cons_zero]
  apply rel_effG
  · intro W hW hS hf
    refine rel_valG (v := .slice (some ⟨W.heap.size, 0, none⟩) 2 2) (W' := W.alloc (.cells #[.string (str (tmpN base)), .string (str (logN base (g + 1)))] 9)) rfl (by go_simp) ?_
    exact ⟨hW.trans ((below_alloc W _).mono hW.size), trivial, trivial, ⟨rfl, .inr ⟨W.heap.size, 2, _, rfl, hW.size, heap_alloc_new _ _, Nat.le_refl _, by simp [maxLen], by simp, by simp⟩⟩⟩
  · exact fun _ _ _ _ _ => trivial
  · exact fun v w w' h hb => own_below h hb
  intro v15
  simp only [Act.put, List.setIfInBounds_toArray, List.set_cons_succ, List.set_cons_zero]
  refine rel_endG ?_
  intro W hW hS hf
  try simp only [Act.put, List.setIfInBounds_toArray, List.set_cons_succ, List.set_cons_zero]
  obtain ⟨A15, c15, rfl, hr15, _, _⟩ := own_rd hS
  have HW := Lib.hid hW
  have HS := Lib.hid (HRM.out W hW A15 c15 (Nrow.of_rd hr15))
  clear hW hf hS hr15 T DP LP HRM
  unfold DiskP at HS
  go_wp2_with fail
  refine HS.out.mono ?_
  rintro e w2 ⟨rfl, hd, hdw⟩
  have HD := Lib.hid hd; have HDW2 := Lib.hid ((HDW.out W HW.out).trans hdw)
  clear hd hdw
  go_wp2_with fail
  go_ret
  exact ⟨rfl, HD.out, HDW2.out⟩
end Go.Proofs.YtegekaocbalndaaGreatDoor
end

section
set_option linter.unusedSimpArgs false
set_option linter.unusedVariables false
namespace Go.Proofs.YtegekaocbalndaaGreatDoor
open Go.RowKit

set_option maxRecDepth 100000 in
set_option maxHeartbeats 2000000 in
theorem sgen_at {w : World} {s p : Nat} {base : Nm} {res g : Int} {lv : Value} {b : Bool} (h : StoreAt w s p base res g lv b) : Calls Tryz.prog 16 #[.pointer (some ⟨s, 0, none⟩)] w fun e w' => e = .returned (.int .i64 g) ∧ w' = w := by
  obtain ⟨t0, t1, t2, t3, t4, t5⟩ := h.cells (Below.refl _ _)
  have HN := Lib.hid (snone_st h)
  clear h
  go_enter Tryz.func16, Tryz.ntmps16
  go_wp2_with fail
  refine HN.out.mono ?_
  rintro e w1 ⟨rfl, rfl⟩
  go_wp2_with fail
  go_ret
  exact ⟨rfl, rfl⟩
set_option maxRecDepth 100000 in
set_option maxHeartbeats 2000000 in
theorem sbroken_at {w : World} {s p : Nat} {base : Nm} {res g : Int} {lv : Value} {b : Bool} (h : StoreAt w s p base res g lv b) : Calls Tryz.prog 18 #[.pointer (some ⟨s, 0, none⟩)] w fun e w' => e = .returned (.bool b) ∧ w' = w := by
  obtain ⟨t0, t1, t2, t3, t4, t5⟩ := h.cells (Below.refl _ _)
  have HN := Lib.hid (snone_st h)
  clear h
  go_enter Tryz.func18, Tryz.ntmps18
  go_wp2_with fail
  refine HN.out.mono ?_
  rintro e w1 ⟨rfl, rfl⟩
  go_wp2_with fail
  go_ret
  exact ⟨rfl, rfl⟩
set_option maxRecDepth 100000 in
set_option maxHeartbeats 2000000 in
theorem ssmallm_at {w : World} {s p R : Nat} {base : Nm} {g : Int} {lv : Value} {b : Bool} (h : StoreAt w s p base R g lv b) (hR : R ≤ 67108864) (n : Nat) (hn : n ≤ 65536) : Calls Tryz.prog 10 #[.pointer (some ⟨s, 0, none⟩), .int .i64 n] w fun e w' => e = .returned (.bool (smallB n R)) ∧ Below w.heap.size w w' := by
  obtain ⟨t0, t1, t2, t3, t4, t5⟩ := h.cells (Below.refl _ _)
  have HN := Lib.hid (snone_st h)
  have HS := Lib.hid (ssmall_at n hn R hR w)
  clear h
  go_enter Tryz.func10, Tryz.ntmps10
  go_wp2_with fail
  refine HN.out.mono ?_
  rintro e w1 ⟨rfl, hw1⟩
  rw [hw1]
  clear hw1
  go_wp2_with fail
  with_reducible refine HS.out.mono ?_
  rintro e w2 ⟨rfl, hb2⟩
  have HB := Lib.hid hb2
  clear hb2
  go_wp2_with fail
  go_ret
  exact ⟨rfl, HB.out⟩
end Go.Proofs.YtegekaocbalndaaGreatDoor
end

section
set_option linter.unusedSimpArgs false
set_option linter.unusedVariables false
namespace Go.Proofs.YtegekaocbalndaaGreatDoor
open Go.RowKit

def SBadP (w : World) (e : Ending) (w' : World) : Prop := e = .returned (.tuple #[.pointer none, .slice none 0 0, .slice none 0 0, .int .i64 2]) ∧ Below w.heap.size w w'
set_option maxRecDepth 100000 in
set_option maxHeartbeats 4000000 in
theorem sopenbad_at {w : World} {p m : Nat} {d : Dk} (h : DiskAt w p m d) (base : Nm) (hb : base.length ≤ 500) (res : Int) (hbad : baseOk base = false ∨ res < 100 ∨ 67108864 < res) :
    Calls Tryz.prog 7 #[.pointer (some ⟨p, 0, none⟩), .string (str base), .int .i64 res] w (SBadP w) := by
  have HRD := Lib.hid (read_at h [] (by decide))
  have HNM := Lib.hid (fun W => storename_any base (by omega) W)
  have h2 : (((d.read []).2 : Int) == 1) = false := by
    unfold Dk.read
    cases d.has [] <;> rfl
  have HBAD := Lib.hid hbad
  clear h hbad
  unfold ReadP at HRD
  generalize d.read [] = rr at *
  obtain ⟨rl, rz⟩ := rr
  simp only at HRD h2
  go_enter Tryz.func7, Tryz.ntmps7
  go_wp2_with fail
  refine HRD.out.mono ?_
  rintro e w1 ⟨A1, c1, rfl, hbs, _, _, hbw⟩
  have HB := Lib.hid hbw
  clear hbs hbw HRD
  generalize rl.length = rn at *
  go_wp2_with fail
  refine (HNM.out w1).mono ?_
  rintro e w2 ⟨rfl, hw2⟩
  rw [hw2]
  clear hw2
  rcases hbo : baseOk base with _ | _
  · clear hbo
    go_wp2_with fail
    (try simp only [Exit.inBlock, Exit.then])
    refine bodyPost_ret (results_tmp4 rfl _ _ _) rfl ?_
    exact ⟨rfl, HB.out⟩
  · have hbad : res < 100 ∨ 67108864 < res := by
      rcases HBAD.out with h | h
      · rw [hbo] at h; cases h
      · exact h
    clear hbo
    by_cases h1 : res < 100
    · clear hbad
      go_wp2_with fail
      (try simp only [Exit.inBlock, Exit.then])
      refine bodyPost_ret (results_tmp4 rfl _ _ _) rfl ?_
      exact ⟨rfl, HB.out⟩
    · have h3 : 67108864 < res := by omega
      clear hbad
      go_wp2_with fail
      (try simp only [Exit.inBlock, Exit.then])
      refine bodyPost_ret (results_tmp4 rfl _ _ _) rfl ?_
      exact ⟨rfl, HB.out⟩
end Go.Proofs.YtegekaocbalndaaGreatDoor
end
