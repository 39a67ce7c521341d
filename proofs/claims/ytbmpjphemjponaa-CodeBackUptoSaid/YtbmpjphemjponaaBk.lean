/- assizelaw09.CodeBack. -/
import Derived.Test.YtbmpjphemjponaaWy
import Derived.Test.YtbmpjphemjponaaWz
import Derived.Test.YtbmpjphemjponaaWsm
import Derived.Test.YtbmpjphemjponaaKo
set_option linter.unusedSimpArgs false
set_option linter.unusedVariables false
namespace Go.Proofs.Ytbmpjphemjponaa
open Go.RowKit

theorem Bs.pref {w : World} {B : Nat} {A : Option Addr} {l : List UInt8} (h : Bs w B A l) (n : Nat) : Bs w B A (l.take n) := fun j hj => by
  have hj' : j < n ∧ j < l.length := by simp at hj; omega
  obtain ⟨b, off, e, hb, hc⟩ := h j hj'.2
  exact ⟨b, off, e, hb, by rw [hc]; simp [List.getD_eq_getElem?_getD, List.getElem?_take, hj'.1]⟩
theorem cdv_eqK {c : Cd} {n m : Nat} {k : Int} (h1 : c.shared.length = n) (h2 : c.bodies.length = m) (h3 : c.mutexes = k) (A A' : Option Addr) (a a' : Nat) : cdv c (A, a) (A', a') = .agg #[.slice A n a, .int .i64 k, .slice A' m a'] := by unfold cdv; rw [h1, h2, h3]
set_option maxRecDepth 100000 in
set_option maxHeartbeats 4000000 in
theorem codeback_walk (c : Cd) (p q : Slc) (d : Cd) (p2 q2 : Slc) (l : List UInt8) (A : Option Addr) (cap : Nat) (w : World) (hc : c.wt ≤ 4000000) (ic : CdIn c) (h1 : VlsAt w w.heap.size p c.shared) (h2 : BdsAt w w.heap.size q c.bodies) (hd : d.wt ≤ 4000000) (id_ : CdIn d) (h3 : VlsAt w w.heap.size p2 d.shared) (h4 : BdsAt w w.heap.size q2 d.bodies)
    (hb : Bs w w.heap.size A l) (hn : A = none → l = []) :
    Calls Try.prog 6 #[cdv c p q, cdv d p2 q2, .slice A l.length cap] w fun e w' => e = .returned (.bool true) ∧ Below w.heap.size w w' := by
  have sc := small_of_wt hc; have sd := small_of_wt hd
  have HL1 := Lib.hid (fun W (h : Below w.heap.size w W) => large_any c hc p q w.heap.size W (h1.below h) (h2.below h) h.size)
  have HL2 := Lib.hid (fun W (h : Below w.heap.size w W) => large_any d hd p2 q2 w.heap.size W (h3.below h) (h4.below h) h.size)
  have lc := cdB_len c; have ld := cdB_len d
  have HY1 := Lib.hid (fun W (h : Below w.heap.size w W) => bytes_any c sc ic (by omega) p q w.heap.size W (h1.below h) (h2.below h) h.size)
  have HY2 := Lib.hid (fun W (h : Below w.heap.size w W) => bytes_any d sd id_ (by omega) p2 q2 w.heap.size W (h3.below h) (h4.below h) h.size)
  have R1 := Lib.hid h1; have R2 := Lib.hid h2; have R3 := Lib.hid h3; have R4 := Lib.hid h4
  have SC := Lib.hid sc; have SD := Lib.hid sd; have IC := Lib.hid ic; have ID := Lib.hid id_; have HB := Lib.hid hb; have HN := Lib.hid hn
  clear h1 h2 h3 h4 sc sd ic id_ hb hn
  unfold cdv at *
  obtain ⟨P1, cp1⟩ := p; obtain ⟨Q1, cq1⟩ := q; obtain ⟨P2, cp2⟩ := p2; obtain ⟨Q2, cq2⟩ := q2
  dsimp only at *
  generalize hn1 : c.shared.length = n1 at *
  generalize hm1 : c.bodies.length = m1 at *
  generalize hk1 : c.mutexes = k1 at *
  generalize hn2 : d.shared.length = n2 at *
  generalize hm2 : d.bodies.length = m2 at *
  generalize hk2 : d.mutexes = k2 at *
  have M1 := Lib.hid hn1; have M2 := Lib.hid hm1; have M3 := Lib.hid hk1; have M4 := Lib.hid hn2; have M5 := Lib.hid hm2; have M6 := Lib.hid hk2
  clear hn1 hm1 hk1 hn2 hm2 hk2
  go_enter Try.func6, Try.ntmps6
  go_upto_region 1 with (fail)
  obtain ⟨b0_, b1_, hb_⟩ := boxes2 w (.cells #[.slice P1 n1 cp1, .int .i64 k1, .slice Q1 m1 cq1] 25) (.cells #[.slice P2 n2 cp2, .int .i64 k2, .slice Q2 m2 cq2] 25)
  generalize (w.alloc (.cells #[.slice P1 n1 cp1, .int .i64 k1, .slice Q1 m1 cq1] 25)).alloc (.cells #[.slice P2 n2 cp2, .int .i64 k2, .slice Q2 m2 cq2] 25) = w0 at *
  have T0 : Hid (∀ W, Below w0.heap.size w0 W → W.cell? ⟨w.heap.size, 0, none⟩ = some (.slice P1 n1 cp1) ∧ W.cell? ⟨w.heap.size, 1, none⟩ = some (.int .i64 k1) ∧ W.cell? ⟨w.heap.size, 2, none⟩ = some (.slice Q1 m1 cq1)) := Lib.hid (fun W hW => by have e := (hW.block _ (lt_blk b0_)).trans b0_; exact ⟨by rw [cell_blk e]; rfl, by rw [cell_blk e]; rfl, by rw [cell_blk e]; rfl⟩)
  have T1 : Hid (∀ W, Below w0.heap.size w0 W → W.cell? ⟨w.heap.size + 1, 0, none⟩ = some (.slice P2 n2 cp2) ∧ W.cell? ⟨w.heap.size + 1, 1, none⟩ = some (.int .i64 k2) ∧ W.cell? ⟨w.heap.size + 1, 2, none⟩ = some (.slice Q2 m2 cq2)) := Lib.hid (fun W hW => by have e := (hW.block _ (lt_blk b1_)).trans b1_; exact ⟨by rw [cell_blk e]; rfl, by rw [cell_blk e]; rfl, by rw [cell_blk e]; rfl⟩)
  have B0 := Lib.hid hb_
  clear hb_ b0_ b1_
  go_wp2_with fail
  refine (known_any w0).mono ?_
  rintro e w1 ⟨rfl, hb1⟩
  have B1 := Lib.hid (B0.out.trans (hb1.mono B0.out.size)); have G1 := Lib.hid hb1
  obtain ⟨c0, c1, c2⟩ := T0.out w1 hb1
  clear hb1
  go_wp2_with fail
  refine (HL1.out _ B1.out).mono ?_
  rintro e w2 ⟨rfl, hb1⟩
  clear c0 c1 c2
  have B2 := Lib.hid (B1.out.trans (hb1.mono B1.out.size)); have G2 := Lib.hid (G1.out.trans (hb1.mono G1.out.size))
  obtain ⟨d0, d1, d2⟩ := T1.out w2 G2.out
  clear hb1 HL1
  rcases Classical.em (12000 < c.wt) with g1 | g1
  · rw [decide_eq_true g1]
    go_wp2_with fail
    go_ret
    exact ⟨rfl, B2.out⟩
  rw [decide_eq_false g1]
  go_wp2_with fail
  refine (HL2.out _ B2.out).mono ?_
  rintro e w3 ⟨rfl, hb1⟩
  clear d0 d1 d2
  have B3 := Lib.hid (B2.out.trans (hb1.mono B2.out.size)); have G3 := Lib.hid (G2.out.trans (hb1.mono G2.out.size))
  clear hb1 HL2
  rcases Classical.em (12000 < d.wt) with g2 | g2
  · rw [decide_eq_true g2]
    go_wp2_with fail
    go_ret
    exact ⟨rfl, B3.out⟩
  rw [decide_eq_false g2]
  rcases Classical.em (20000 < l.length) with g3 | g3
  · have d3 : decide ((20000 : Int) < (l.length : Int)) = true := decide_eq_true (by omega)
    go_wp2_with fail
    go_ret
    exact ⟨rfl, B3.out⟩
  have d3 : decide ((20000 : Int) < (l.length : Int)) = false := decide_eq_false (by omega)
  have hl2 : l.length ≤ 20000 := by omega
  have hcl : (cdB c).length ≤ 132003 := by omega
  have hcp : 3 ≤ (cdB c).length := by omega
  clear hc hd lc ld g1 g2 g3
  obtain ⟨c0, c1, c2⟩ := T0.out w3 G3.out
  go_wp2_with fail
  refine (HY1.out _ B3.out).mono ?_
  rintro e w4 ⟨hp, hb1⟩
  have B4 := Lib.hid (B3.out.trans (hb1.mono B3.out.size)); have G4 := Lib.hid (G3.out.trans (hb1.mono G3.out.size))
  clear hb1 c0 c1 c2 HY1 d3
  obtain ⟨d0, d1, d2⟩ := T1.out w4 G4.out
  rcases hp with ⟨hne, rfl⟩ | ⟨hk, v, rfl, hown⟩
  · have q0 : (chk c == 0) = false := by simpa using hne
    clear hne
    generalize chk c = ck at *
    go_wp2_with fail
    refine (HY2.out _ B4.out).mono ?_
    rintro e wt ⟨hp, hb1⟩
    have HT := Lib.hid (B4.out.trans (hb1.mono B4.out.size))
    clear hb1 d0 d1 d2 HY2
    obtain ⟨yv, ye, rfl⟩ : ∃ yv ye, e = .returned (.tuple #[yv, .int .i64 ye]) := by
      rcases hp with ⟨_, h⟩ | ⟨_, v, h, _⟩
      · exact ⟨_, _, h⟩
      · exact ⟨_, _, h⟩
    clear hp
    go_wp2_with fail
    have hwt := HT.out.size
    refine (read_any l (by omega) A cap w.heap.size wt (HB.out.below HT.out) HN.out hwt).mono ?_
    rintro e v1 ⟨hp, hb⟩
    have HT1 := Lib.hid (HT.out.trans (hb.mono hwt))
    unfold ReadP at hp
    cases hrl : readL l with
    | none =>
      rw [hrl] at hp
      obtain rfl := hp
      clear hb hrl
      go_wp2_with fail
      go_ret
      exact ⟨rfl, HT1.out.trans ((below_alloc _ _).mono HT1.out.size)⟩
    | some pc =>
      rw [hrl] at hp
      obtain ⟨pp, qq, rfl, ho1, ho2⟩ := hp
      obtain ⟨hpb, hpk, hpi, hps⟩ := readL_some hrl
      obtain ⟨A1, a1⟩ := pp; obtain ⟨A2, a2⟩ := qq
      have OV := Lib.hid ho1; have OB := Lib.hid ho2
      have HPB := Lib.hid hpb; have HPK := Lib.hid hpk
      have HBy := Lib.hid (fun W (hW : Below v1.heap.size v1 W) => bytes_any pc hps hpi (by rw [hpb]; omega) (A1, a1) (A2, a2) v1.heap.size W (OV.out.at.below hW) (OB.out.at.below hW) hW.size)
      rw [cdv_eq' (sh := pc.shared) (bs := pc.bodies) (mt := pc.mutexes) rfl rfl A1 A2 a1 a2] at HBy ⊢
      clear ho1 ho2 hpb hpk hpi hps hb hrl
      generalize pc.shared.length = z1 at *
      generalize pc.bodies.length = z2 at *
      generalize pc.mutexes = z3 at *
      go_upto_region 15 with (fail)
      obtain ⟨b0_, hb_⟩ := boxes1 v1 (.cells #[.slice A1 z1 a1, .int .i64 z3, .slice A2 z2 a2] 25)
      generalize v1.alloc (.cells #[.slice A1 z1 a1, .int .i64 z3, .slice A2 z2 a2] 25) = v2 at *
      have T2 : Hid (∀ W, Below v2.heap.size v2 W → W.cell? ⟨v1.heap.size, 0, none⟩ = some (.slice A1 z1 a1) ∧ W.cell? ⟨v1.heap.size, 1, none⟩ = some (.int .i64 z3) ∧ W.cell? ⟨v1.heap.size, 2, none⟩ = some (.slice A2 z2 a2)) := Lib.hid (fun W hW => by have e := (hW.block _ (lt_blk b0_)).trans b0_; exact ⟨by rw [cell_blk e]; rfl, by rw [cell_blk e]; rfl, by rw [cell_blk e]; rfl⟩)
      have B2 := Lib.hid hb_
      clear hb_ b0_
      obtain ⟨c0, c1, c2⟩ := T2.out v2 (Below.refl _ _)
      have HT2 := Lib.hid (HT1.out.trans (B2.out.mono HT1.out.size))
      go_wp2_with fail
      refine (HBy.out v2 B2.out).mono ?_
      rintro e v3 ⟨hp, hb⟩
      obtain ⟨v, rfl, hown⟩ : ∃ v, e = .returned (.tuple #[v, .int .i64 0]) ∧ v3.ownsRow v2.heap.size 5 1 v l.length (bcells l) := by
        rcases hp with ⟨hne, _⟩ | ⟨_, v, h1, h2⟩
        · exact absurd HPK.out hne
        · rw [HPB.out] at h2; exact ⟨v, h1, h2⟩
      have h6 := own_rdS hown
      obtain ⟨Az, cz, rfl, h7, h8, -⟩ := h6
      have HT3 := Lib.hid (HT2.out.trans (hb.mono HT2.out.size))
      have HR := Lib.hid h7; have HNz := Lib.hid h8
      have HBl := Lib.hid (HB.out.below HT3.out)
      clear hp hb hown h7 h8 c0 c1 c2 T2 OV OB HBy
      go_wp2_with fail
      refine (same_bytes l l Az A l.length l.length cz cap v3 v3.heap.size w.heap.size rfl rfl HR.out.bs (fun h => List.eq_nil_of_length_eq_zero (HNz.out h)) HBl.out HN.out).mono ?_
      rintro e v4 ⟨rfl, rfl⟩
      rw [decide_eq_true (rfl : l = l)]
      go_wp2_with fail
      go_ret
      exact ⟨rfl, HT3.out⟩
  obtain ⟨n', hn'⟩ : ∃ n', (cdB c).length = n' + 1 := ⟨(cdB c).length - 1, by omega⟩
  have h6 := own_rdS hown
  obtain ⟨Ax, cx, rfl, h7, h8, h9⟩ := h6
  have OX := Lib.hid h7.bs
  have NX : Hid (Ax = none → cdB c = []) := Lib.hid (fun h => by have := h8 h; omega)
  have KC := Lib.hid hk
  have HLEN := Lib.hid hn'
  have hcx : n' + 1 ≤ cx := by omega
  have hn6 : n' + 1 ≤ 132003 := by omega
  have hn3 : 2 ≤ n' := by omega
  rw [hn']
  clear h7 h8 h9 hown hn' hcl hcp
  clear hk
  go_wp2_with fail
  refine (HY2.out _ B4.out).mono ?_
  rintro e w5 ⟨hp, hb1⟩
  have B5 := Lib.hid (B4.out.trans (hb1.mono B4.out.size)); have G5 := Lib.hid (G4.out.trans (hb1.mono G4.out.size))
  have OX5 := Lib.hid ((OX.out.below hb1).more hb1.size)
  obtain ⟨yv, ye, rfl, hy⟩ : ∃ yv ye, e = .returned (.tuple #[yv, .int .i64 ye]) ∧ (ye = 0 → chk d = 0 ∧ ∃ Ay cy, yv = .slice Ay (cdB d).length cy ∧ Bs w5 w5.heap.size Ay (cdB d) ∧ (Ay = none → cdB d = [])) := by
    rcases hp with ⟨h0, h⟩ | ⟨h0, v, h, ho⟩
    · exact ⟨_, _, h, fun e => absurd e h0⟩
    · have h6 := own_rdS ho
      obtain ⟨Ay, cy, rfl, h7, h8, -⟩ := h6
      exact ⟨_, _, h, fun _ => ⟨h0, Ay, cy, rfl, h7.bs, fun h => List.eq_nil_of_length_eq_zero (h8 h)⟩⟩
  have HY := Lib.hid hy
  clear hy hp hb1 HY2 d0 d1 d2 OX
  -- what is read of these bytes
  have RD1 : Hid (∀ W, Below w5.heap.size w5 W → Calls Try.prog 17 #[.slice Ax (n' + 1 : Nat) cx] W fun e w' => (∃ p q : Slc, e = .returned (.tuple #[cdv c p q, .int .i64 0]) ∧ OwV w' W.heap.size p c.shared ∧ OwBs w' W.heap.size q c.bodies) ∧ Below W.heap.size W w') := Lib.hid (fun W hW => by
    have := read_any (cdB c) (by rw [HLEN.out]; omega) Ax cx w5.heap.size W (OX5.out.below hW) NX.out hW.size
    rw [HLEN.out] at this
    refine this.mono ?_
    rintro e w' ⟨h1, h2⟩
    unfold ReadP at h1
    rw [readL_lay IC.out KC.out] at h1
    exact ⟨h1, h2⟩)
  have RD2 : Hid (∀ W, Below w5.heap.size w5 W → Calls Try.prog 17 #[.slice Ax n' cx] W fun e w' => e = .returned (.tuple #[.agg #[.slice none 0 0, .int .i64 0, .slice none 0 0], .int .i64 4]) ∧ Below W.heap.size W w') := Lib.hid (fun W hW => by
    have hlt : ((cdB c).take n').length = n' := by rw [List.length_take, HLEN.out]; omega
    have := read_any ((cdB c).take n') (by rw [hlt]; omega) Ax cx w5.heap.size W ((OX5.out.below hW).pref n') (fun h => by rw [NX.out h]; simp) hW.size
    rw [hlt] at this
    refine this.mono ?_
    rintro e w' ⟨h1, h2⟩
    unfold ReadP at h1
    have h3 := readL_less IC.out KC.out (by rw [HLEN.out]; omega)
    rw [HLEN.out, Nat.add_sub_cancel] at h3
    rw [h3] at h1
    exact ⟨h1, h2⟩)
  have RD3 : Hid (∀ (W : World) (v : Value) (L : Nat), W.ownsRow L 5 1 v (n' + 1 + 1) (bcells (cdB c ++ [0])) → Calls Try.prog 17 #[v] W fun e w' => e = .returned (.tuple #[.agg #[.slice none 0 0, .int .i64 0, .slice none 0 0], .int .i64 4]) ∧ Below W.heap.size W w') := Lib.hid (fun W v L hv => by
    have h6 := own_rdS hv
    obtain ⟨Az, cz, rfl, h7, h8, -⟩ := h6
    have hlt : (cdB c ++ [0]).length = n' + 1 + 1 := by rw [List.length_append, HLEN.out]; rfl
    have := read_any (cdB c ++ [0]) (by rw [hlt]; omega) Az cz W.heap.size W h7.bs (fun h => by have := h8 h; omega) (Nat.le_refl _)
    rw [hlt] at this
    refine this.mono ?_
    rintro e w' ⟨h1, h2⟩
    unfold ReadP at h1
    rw [readL_more IC.out KC.out 0] at h1
    exact ⟨h1, h2⟩)
  have CPY : Hid (∀ W, Below w5.heap.size w5 W → Calls Try.prog 27 #[.slice Ax (n' + 1 : Nat) cx] W fun e w' => ∃ v, e = .returned v ∧ w'.ownsRow W.heap.size 5 1 v (n' + 1) (bcells (cdB c)) ∧ Below W.heap.size W w') := Lib.hid (fun W hW => by
    have := copy_any (cdB c) (by rw [HLEN.out]; omega) Ax cx W ((OX5.out.below hW).more hW.size) NX.out
    rwa [HLEN.out] at this)
  have B5s := B5.out.size
  go_wp2_with fail
  refine (RD1.out w5 (Below.refl _ _)).mono ?_
  rintro e w6 ⟨⟨pb, qb, rfl, ho1, ho2⟩, hb1⟩
  obtain ⟨Ab, cb⟩ := pb; obtain ⟨Ab', cb'⟩ := qb
  have OV := Lib.hid ho1; have OB := Lib.hid ho2; have X6 := Lib.hid hb1
  rw [cdv_eqK M1.out M2.out M3.out]
  clear ho1 ho2 hb1
  go_upto_region 10 with (fail)
  obtain ⟨b0_, hb_⟩ := boxes1 w6 (.cells #[.slice Ab n1 cb, .int .i64 k1, .slice Ab' m1 cb'] 25)
  generalize w6.alloc (.cells #[.slice Ab n1 cb, .int .i64 k1, .slice Ab' m1 cb'] 25) = w7 at *
  have T7 : Hid (∀ W, Below w7.heap.size w7 W → W.cell? ⟨w6.heap.size, 0, none⟩ = some (.slice Ab n1 cb) ∧ W.cell? ⟨w6.heap.size, 1, none⟩ = some (.int .i64 k1) ∧ W.cell? ⟨w6.heap.size, 2, none⟩ = some (.slice Ab' m1 cb')) := Lib.hid (fun W hW => by have e := (hW.block _ (lt_blk b0_)).trans b0_; exact ⟨by rw [cell_blk e]; rfl, by rw [cell_blk e]; rfl, by rw [cell_blk e]; rfl⟩)
  have B7 := Lib.hid hb_
  clear hb_ b0_
  have X7 := Lib.hid (X6.out.trans (B7.out.mono X6.out.size))
  have OV := Lib.hid (OV.out.below B7.out).at; have OB := Lib.hid (OB.out.below B7.out).at
  go_wp2_with fail
  refine (RD2.out w7 X7.out).mono ?_
  rintro e w8 ⟨rfl, hb1⟩
  have Y8 := Lib.hid hb1
  clear hb1
  go_upto_region 11 with (fail)
  have hb9 := below_alloc w8 (.cells #[.slice none 0 0, .int .i64 0, .slice none 0 0] 25)
  generalize w8.alloc (.cells #[.slice none 0 0, .int .i64 0, .slice none 0 0] 25) = w9 at *
  have Y9 := Lib.hid (Y8.out.trans (hb9.mono Y8.out.size))
  have X9 := Lib.hid (X7.out.trans (Y9.out.mono X7.out.size))
  clear hb9
  go_wp2_with fail
  refine (CPY.out w9 X9.out).mono ?_
  rintro e w10 ⟨v10, rfl, ho, hb1⟩
  have O10 := Lib.hid ho; have hB10 := hb1.size; have CPYb := Lib.hid hb1
  clear ho hb1
  go_wp2_with (at_builtin; refine wpList_append_one0 E5 rfl (.tmp 70) (.tmp 71) rfl w9.heap.size (.int .u8 0) rfl v10 (n' + 1) (bcells (cdB c)) rfl O10.out rfl (by omega) (by omega) w10 hB10 (Below.refl _ _) ?_; intro v' w' h2 h3 h4 h5; clear h4 h5; have O11 := Lib.hid h2; have B11 := Lib.hid h3; clear h2 h3)
  have Y11 := Lib.hid (Y9.out.trans ((Below.trans (CPYb.out) B11.out).mono Y9.out.size))
  refine (RD3.out w' v' w9.heap.size (by rw [bcells_app]; exact O11.out)).mono ?_
  rintro e w11 ⟨rfl, hb1⟩
  have Y12 := Lib.hid (Y11.out.trans (hb1.mono Y11.out.size))
  clear hb1
  go_upto_region 12 with (fail)
  have hb9 := below_alloc w11 (.cells #[.slice none 0 0, .int .i64 0, .slice none 0 0] 25)
  generalize w11.alloc (.cells #[.slice none 0 0, .int .i64 0, .slice none 0 0] 25) = w12 at *
  have Y13 := Lib.hid (Y12.out.trans (hb9.mono Y12.out.size))
  have X13 := Lib.hid (X7.out.trans (Y13.out.mono X7.out.size))
  clear hb9
  have B13 := Lib.hid (B5.out.trans (X13.out.mono B5s))
  have T3' := Lib.hid (fun W (h : Below w12.heap.size w12 W) => T0.out W (G5.out.trans ((X13.out.trans (h.mono X13.out.size)).mono G5.out.size)))
  have T4' := Lib.hid (fun W (h : Below w12.heap.size w12 W) => T1.out W (G5.out.trans ((X13.out.trans (h.mono X13.out.size)).mono G5.out.size)))
  have T12 := Lib.hid (fun W (h : Below w12.heap.size w12 W) => T7.out W (Y13.out.trans (h.mono Y13.out.size)))
  have L7 := Lib.hid (Nat.le_trans B5s X7.out.size)
  have KE : Hid (∀ W, Below w12.heap.size w12 W → Calls Try.prog 11 #[.agg #[.slice Ab n1 cb, .int .i64 k1, .slice Ab' m1 cb'], .agg #[.slice P1 n1 cp1, .int .i64 k1, .slice Q1 m1 cq1]] W fun e w' => e = .returned (.bool true) ∧ Below W.heap.size W w') := Lib.hid (fun W hW => by
    have hY := Y13.out.trans (hW.mono Y13.out.size)
    have hB := B13.out.trans (hW.mono B13.out.size)
    have := kit_code c c SC.out SC.out (Ab, cb) (Ab', cb') (P1, cp1) (Q1, cq1) w7.heap.size W (OV.out.below hY) (OB.out.below hY) ((R1.out.below hB).more L7.out) ((R2.out.below hB).more L7.out) hY.size
    rwa [cdv_eqK M1.out M2.out M3.out, cdv_eqK M1.out M2.out M3.out, Cd.eq_refl] at this)
  have KD : Hid (∀ W, Below w12.heap.size w12 W → Calls Try.prog 11 #[.agg #[.slice P1 n1 cp1, .int .i64 k1, .slice Q1 m1 cq1], .agg #[.slice P2 n2 cp2, .int .i64 k2, .slice Q2 m2 cq2]] W fun e w' => e = .returned (.bool (Cd.eq c d)) ∧ Below W.heap.size W w') := Lib.hid (fun W hW => by
    have hB := B13.out.trans (hW.mono B13.out.size)
    have := kit_code c d SC.out SD.out (P1, cp1) (Q1, cq1) (P2, cp2) (Q2, cq2) w.heap.size W (R1.out.below hB) (R2.out.below hB) (R3.out.below hB) (R4.out.below hB) hB.size
    rwa [cdv_eqK M1.out M2.out M3.out, cdv_eqK M4.out M5.out M6.out] at this)
  clear RD1 RD2 RD3 CPY CPYb
  rcases Classical.em (ye = 0) with hye | hye
  rotate_left
  · have qe : (ye == 0) = false := by simpa using hye
    clear hye
    apply wp_region_relH (H := []) 29 [(Sum.inl _ : TT), (Sum.inl _ : TT), (Sum.inl _ : TT), (Sum.inl _ : TT), (Sum.inl _ : TT), (Sum.inl _ : TT), (Sum.inl _ : TT), (Sum.inl _ : TT), (Sum.inl _ : TT), (Sum.inl _ : TT), (Sum.inl _ : TT), (Sum.inl _ : TT), (Sum.inl _ : TT), (Sum.inl _ : TT), (Sum.inl _ : TT), (Sum.inl _ : TT), (Sum.inl _ : TT), (Sum.inl _ : TT), (Sum.inl _ : TT), (Sum.inl _ : TT), (Sum.inl _ : TT), (Sum.inl _ : TT), (Sum.inl _ : TT), (Sum.inl _ : TT), (Sum.inl _ : TT), (Sum.inl _ : TT), (Sum.inl _ : TT), (Sum.inl _ : TT), (Sum.inl _ : TT)] (by kernel_rfl) (by kernel_rfl) (fun _ _ _ _ _ h => h) rfl
    simp only [List.take_succ_cons, List.take_zero, List.drop_succ_cons, List.drop_zero]
    iterate 3 (apply rel_isS; (intro W hW hf; go_simp; first | exact ⟨StayS.refl _ _, rfl⟩ | rfl); simp only [Act.put, List.setIfInBounds_toArray, List.set_cons_succ, List.set_cons_zero])
    iterate 2 (apply rel_isS; (intro W hW hf; obtain ⟨u0, u1, u2⟩ := T12.out W hW; obtain ⟨v0, v1, v2⟩ := T3'.out W hW; go_simp; first | exact ⟨StayS.refl _ _, rfl⟩ | rfl); simp only [Act.put, List.setIfInBounds_toArray, List.set_cons_succ, List.set_cons_zero])
    apply rel_isS
    · intro W hW hf
      exact rel_callS hW (by first | rfl | (go_simp; done) | (go_simp; simp)) (by go_simp <;> first | rfl | exact ⟨rfl, rfl⟩ | exact ⟨rfl, rfl, rfl⟩) ((KE.out W hW).mono fun e w' ⟨a, b⟩ => ⟨_, a, b, rfl⟩)
    simp only [Act.put, List.setIfInBounds_toArray, List.set_cons_succ, List.set_cons_zero]
    iterate 16 (apply rel_isS; (intro W hW hf; go_simp; first | exact ⟨StayS.refl _ _, rfl⟩ | rfl); simp only [Act.put, List.setIfInBounds_toArray, List.set_cons_succ, List.set_cons_zero])
    iterate 1 (apply rel_isS; (intro W hW hf; go_simp; first | exact ⟨StayS.refl _ _, rfl⟩ | rfl); simp only [Act.put, List.setIfInBounds_toArray, List.set_cons_succ, List.set_cons_zero])
    iterate 2 (apply rel_isS; (intro W hW hf; go_simp; first | exact ⟨StayS.refl _ _, rfl⟩ | rfl); simp only [Act.put, List.setIfInBounds_toArray, List.set_cons_succ, List.set_cons_zero])
    iterate 1 (apply rel_isS; (intro W hW hf; go_simp; first | exact ⟨StayS.refl _ _, rfl⟩ | rfl); simp only [Act.put, List.setIfInBounds_toArray, List.set_cons_succ, List.set_cons_zero])
    iterate 3 (apply rel_isS; (intro W hW hf; go_simp; first | exact ⟨StayS.refl _ _, rfl⟩ | rfl); simp only [Act.put, List.setIfInBounds_toArray, List.set_cons_succ, List.set_cons_zero])
    refine rel_endS ?_
    intro W hW hf
    try simp only [Act.put, List.setIfInBounds_toArray, List.set_cons_succ, List.set_cons_zero]
    refine wpList_nil ?_
    obtain ⟨wt, ew⟩ : ∃ x, x = W := ⟨_, rfl⟩; subst ew
    have HT := Lib.hid (B13.out.trans (hW.mono B13.out.size))
    clear hf hW
    go_wp2_with fail
    have hwt := HT.out.size
    refine (read_any l (by omega) A cap w.heap.size wt (HB.out.below HT.out) HN.out hwt).mono ?_
    rintro e v1 ⟨hp, hb⟩
    have HT1 := Lib.hid (HT.out.trans (hb.mono hwt))
    unfold ReadP at hp
    cases hrl : readL l with
    | none =>
      rw [hrl] at hp
      obtain rfl := hp
      clear hb hrl
      go_wp2_with fail
      go_ret
      exact ⟨rfl, HT1.out.trans ((below_alloc _ _).mono HT1.out.size)⟩
    | some pc =>
      rw [hrl] at hp
      obtain ⟨pp, qq, rfl, ho1, ho2⟩ := hp
      obtain ⟨hpb, hpk, hpi, hps⟩ := readL_some hrl
      obtain ⟨A1, a1⟩ := pp; obtain ⟨A2, a2⟩ := qq
      have OV := Lib.hid ho1; have OB := Lib.hid ho2
      have HPB := Lib.hid hpb; have HPK := Lib.hid hpk
      have HBy := Lib.hid (fun W (hW : Below v1.heap.size v1 W) => bytes_any pc hps hpi (by rw [hpb]; omega) (A1, a1) (A2, a2) v1.heap.size W (OV.out.at.below hW) (OB.out.at.below hW) hW.size)
      rw [cdv_eq' (sh := pc.shared) (bs := pc.bodies) (mt := pc.mutexes) rfl rfl A1 A2 a1 a2] at HBy ⊢
      clear ho1 ho2 hpb hpk hpi hps hb hrl
      generalize pc.shared.length = z1 at *
      generalize pc.bodies.length = z2 at *
      generalize pc.mutexes = z3 at *
      go_upto_region 15 with (fail)
      obtain ⟨b0_, hb_⟩ := boxes1 v1 (.cells #[.slice A1 z1 a1, .int .i64 z3, .slice A2 z2 a2] 25)
      generalize v1.alloc (.cells #[.slice A1 z1 a1, .int .i64 z3, .slice A2 z2 a2] 25) = v2 at *
      have T2 : Hid (∀ W, Below v2.heap.size v2 W → W.cell? ⟨v1.heap.size, 0, none⟩ = some (.slice A1 z1 a1) ∧ W.cell? ⟨v1.heap.size, 1, none⟩ = some (.int .i64 z3) ∧ W.cell? ⟨v1.heap.size, 2, none⟩ = some (.slice A2 z2 a2)) := Lib.hid (fun W hW => by have e := (hW.block _ (lt_blk b0_)).trans b0_; exact ⟨by rw [cell_blk e]; rfl, by rw [cell_blk e]; rfl, by rw [cell_blk e]; rfl⟩)
      have B2 := Lib.hid hb_
      clear hb_ b0_
      obtain ⟨c0, c1, c2⟩ := T2.out v2 (Below.refl _ _)
      have HT2 := Lib.hid (HT1.out.trans (B2.out.mono HT1.out.size))
      go_wp2_with fail
      refine (HBy.out v2 B2.out).mono ?_
      rintro e v3 ⟨hp, hb⟩
      obtain ⟨v, rfl, hown⟩ : ∃ v, e = .returned (.tuple #[v, .int .i64 0]) ∧ v3.ownsRow v2.heap.size 5 1 v l.length (bcells l) := by
        rcases hp with ⟨hne, _⟩ | ⟨_, v, h1, h2⟩
        · exact absurd HPK.out hne
        · rw [HPB.out] at h2; exact ⟨v, h1, h2⟩
      have h6 := own_rdS hown
      obtain ⟨Az, cz, rfl, h7, h8, -⟩ := h6
      have HT3 := Lib.hid (HT2.out.trans (hb.mono HT2.out.size))
      have HR := Lib.hid h7; have HNz := Lib.hid h8
      have HBl := Lib.hid (HB.out.below HT3.out)
      clear hp hb hown h7 h8 c0 c1 c2 T2 OV OB HBy
      go_wp2_with fail
      refine (same_bytes l l Az A l.length l.length cz cap v3 v3.heap.size w.heap.size rfl rfl HR.out.bs (fun h => List.eq_nil_of_length_eq_zero (HNz.out h)) HBl.out HN.out).mono ?_
      rintro e v4 ⟨rfl, rfl⟩
      rw [decide_eq_true (rfl : l = l)]
      go_wp2_with fail
      go_ret
      exact ⟨rfl, HT3.out⟩
  subst hye
  obtain ⟨kd, Ay, cy, rfl, hby, hny⟩ := HY.out (by trivial)
  have SB : Hid (∀ W, Below w12.heap.size w12 W → Calls Try.prog 23 #[.slice Ax (n' + 1 : Nat) cx, .slice Ay (cdB d).length cy] W fun e w' => e = .returned (.bool (Cd.eq c d)) ∧ Below W.heap.size W w') := Lib.hid (fun W hW => by
    have hX := X13.out.trans (hW.mono X13.out.size)
    rw [← cdB_same IC.out ID.out KC.out kd]
    refine (same_bytes (cdB c) (cdB d) Ax Ay (n' + 1) (cdB d).length cx cy W w5.heap.size w5.heap.size HLEN.out.symm rfl (OX5.out.below hX) NX.out (hby.below hX) hny).mono ?_
    rintro e w' ⟨h1, rfl⟩
    exact ⟨h1, Below.refl _ _⟩)
  clear kd hby hny HY
  generalize (cdB d).length = nd at *
  generalize Cd.eq c d = qe at *
  cases qe
  all_goals
    apply wp_region_relH (H := []) 29 [(Sum.inl _ : TT), (Sum.inl _ : TT), (Sum.inl _ : TT), (Sum.inl _ : TT), (Sum.inl _ : TT), (Sum.inl _ : TT), (Sum.inl _ : TT), (Sum.inl _ : TT), (Sum.inl _ : TT), (Sum.inl _ : TT), (Sum.inl _ : TT), (Sum.inl _ : TT), (Sum.inl _ : TT), (Sum.inl _ : TT), (Sum.inl _ : TT), (Sum.inl _ : TT), (Sum.inl _ : TT), (Sum.inl _ : TT), (Sum.inl _ : TT), (Sum.inl _ : TT), (Sum.inl _ : TT), (Sum.inl _ : TT), (Sum.inl _ : TT), (Sum.inl _ : TT), (Sum.inl _ : TT), (Sum.inl _ : TT), (Sum.inl _ : TT), (Sum.inl _ : TT), (Sum.inl _ : TT)] (by kernel_rfl) (by kernel_rfl) (fun _ _ _ _ _ h => h) rfl
    simp only [List.take_succ_cons, List.take_zero, List.drop_succ_cons, List.drop_zero]
    iterate 3 (apply rel_isS; (intro W hW hf; go_simp; first | exact ⟨StayS.refl _ _, rfl⟩ | rfl); simp only [Act.put, List.setIfInBounds_toArray, List.set_cons_succ, List.set_cons_zero])
    iterate 2 (apply rel_isS; (intro W hW hf; obtain ⟨u0, u1, u2⟩ := T12.out W hW; obtain ⟨v0, v1, v2⟩ := T3'.out W hW; go_simp; first | exact ⟨StayS.refl _ _, rfl⟩ | rfl); simp only [Act.put, List.setIfInBounds_toArray, List.set_cons_succ, List.set_cons_zero])
    apply rel_isS
    · intro W hW hf
      exact rel_callS hW (by first | rfl | (go_simp; done) | (go_simp; simp)) (by go_simp <;> first | rfl | exact ⟨rfl, rfl⟩ | exact ⟨rfl, rfl, rfl⟩) ((KE.out W hW).mono fun e w' ⟨a, b⟩ => ⟨_, a, b, rfl⟩)
    simp only [Act.put, List.setIfInBounds_toArray, List.set_cons_succ, List.set_cons_zero]
    iterate 16 (apply rel_isS; (intro W hW hf; go_simp; first | exact ⟨StayS.refl _ _, rfl⟩ | rfl); simp only [Act.put, List.setIfInBounds_toArray, List.set_cons_succ, List.set_cons_zero])
    apply rel_isS
    · intro W hW hf
      exact rel_callS hW (by first | rfl | (go_simp; done) | (go_simp; simp)) (by go_simp <;> first | rfl | exact ⟨rfl, rfl⟩ | exact ⟨rfl, rfl, rfl⟩) ((SB.out W hW).mono fun e w' ⟨a, b⟩ => ⟨_, a, b, rfl⟩)
    simp only [Act.put, List.setIfInBounds_toArray, List.set_cons_succ, List.set_cons_zero]
    iterate 2 (apply rel_isS; (intro W hW hf; obtain ⟨u0, u1, u2⟩ := T3'.out W hW; obtain ⟨v0, v1, v2⟩ := T4'.out W hW; go_simp; first | exact ⟨StayS.refl _ _, rfl⟩ | rfl); simp only [Act.put, List.setIfInBounds_toArray, List.set_cons_succ, List.set_cons_zero])
    apply rel_isS
    · intro W hW hf
      exact rel_callS hW (by first | rfl | (go_simp; done) | (go_simp; simp)) (by go_simp <;> first | rfl | exact ⟨rfl, rfl⟩ | exact ⟨rfl, rfl, rfl⟩) ((KD.out W hW).mono fun e w' ⟨a, b⟩ => ⟨_, a, b, rfl⟩)
    simp only [Act.put, List.setIfInBounds_toArray, List.set_cons_succ, List.set_cons_zero]
    iterate 3 (apply rel_isS; (intro W hW hf; go_simp; first | exact ⟨StayS.refl _ _, rfl⟩ | rfl); simp only [Act.put, List.setIfInBounds_toArray, List.set_cons_succ, List.set_cons_zero])
    refine rel_endS ?_
    intro W hW hf
    try simp only [Act.put, List.setIfInBounds_toArray, List.set_cons_succ, List.set_cons_zero]
    refine wpList_nil ?_
    obtain ⟨wt, ew⟩ : ∃ x, x = W := ⟨_, rfl⟩; subst ew
    have HT := Lib.hid (B13.out.trans (hW.mono B13.out.size))
    clear hf hW
    go_wp2_with fail
    have hwt := HT.out.size
    refine (read_any l (by omega) A cap w.heap.size wt (HB.out.below HT.out) HN.out hwt).mono ?_
    rintro e v1 ⟨hp, hb⟩
    have HT1 := Lib.hid (HT.out.trans (hb.mono hwt))
    unfold ReadP at hp
    cases hrl : readL l with
    | none =>
      rw [hrl] at hp
      obtain rfl := hp
      clear hb hrl
      go_wp2_with fail
      go_ret
      exact ⟨rfl, HT1.out.trans ((below_alloc _ _).mono HT1.out.size)⟩
    | some pc =>
      rw [hrl] at hp
      obtain ⟨pp, qq, rfl, ho1, ho2⟩ := hp
      obtain ⟨hpb, hpk, hpi, hps⟩ := readL_some hrl
      obtain ⟨A1, a1⟩ := pp; obtain ⟨A2, a2⟩ := qq
      have OV := Lib.hid ho1; have OB := Lib.hid ho2
      have HPB := Lib.hid hpb; have HPK := Lib.hid hpk
      have HBy := Lib.hid (fun W (hW : Below v1.heap.size v1 W) => bytes_any pc hps hpi (by rw [hpb]; omega) (A1, a1) (A2, a2) v1.heap.size W (OV.out.at.below hW) (OB.out.at.below hW) hW.size)
      rw [cdv_eq' (sh := pc.shared) (bs := pc.bodies) (mt := pc.mutexes) rfl rfl A1 A2 a1 a2] at HBy ⊢
      clear ho1 ho2 hpb hpk hpi hps hb hrl
      generalize pc.shared.length = z1 at *
      generalize pc.bodies.length = z2 at *
      generalize pc.mutexes = z3 at *
      go_upto_region 15 with (fail)
      obtain ⟨b0_, hb_⟩ := boxes1 v1 (.cells #[.slice A1 z1 a1, .int .i64 z3, .slice A2 z2 a2] 25)
      generalize v1.alloc (.cells #[.slice A1 z1 a1, .int .i64 z3, .slice A2 z2 a2] 25) = v2 at *
      have T2 : Hid (∀ W, Below v2.heap.size v2 W → W.cell? ⟨v1.heap.size, 0, none⟩ = some (.slice A1 z1 a1) ∧ W.cell? ⟨v1.heap.size, 1, none⟩ = some (.int .i64 z3) ∧ W.cell? ⟨v1.heap.size, 2, none⟩ = some (.slice A2 z2 a2)) := Lib.hid (fun W hW => by have e := (hW.block _ (lt_blk b0_)).trans b0_; exact ⟨by rw [cell_blk e]; rfl, by rw [cell_blk e]; rfl, by rw [cell_blk e]; rfl⟩)
      have B2 := Lib.hid hb_
      clear hb_ b0_
      obtain ⟨c0, c1, c2⟩ := T2.out v2 (Below.refl _ _)
      have HT2 := Lib.hid (HT1.out.trans (B2.out.mono HT1.out.size))
      go_wp2_with fail
      refine (HBy.out v2 B2.out).mono ?_
      rintro e v3 ⟨hp, hb⟩
      obtain ⟨v, rfl, hown⟩ : ∃ v, e = .returned (.tuple #[v, .int .i64 0]) ∧ v3.ownsRow v2.heap.size 5 1 v l.length (bcells l) := by
        rcases hp with ⟨hne, _⟩ | ⟨_, v, h1, h2⟩
        · exact absurd HPK.out hne
        · rw [HPB.out] at h2; exact ⟨v, h1, h2⟩
      have h6 := own_rdS hown
      obtain ⟨Az, cz, rfl, h7, h8, -⟩ := h6
      have HT3 := Lib.hid (HT2.out.trans (hb.mono HT2.out.size))
      have HR := Lib.hid h7; have HNz := Lib.hid h8
      have HBl := Lib.hid (HB.out.below HT3.out)
      clear hp hb hown h7 h8 c0 c1 c2 T2 OV OB HBy
      go_wp2_with fail
      refine (same_bytes l l Az A l.length l.length cz cap v3 v3.heap.size w.heap.size rfl rfl HR.out.bs (fun h => List.eq_nil_of_length_eq_zero (HNz.out h)) HBl.out HN.out).mono ?_
      rintro e v4 ⟨rfl, rfl⟩
      rw [decide_eq_true (rfl : l = l)]
      go_wp2_with fail
      go_ret
      exact ⟨rfl, HT3.out⟩
end Go.Proofs.Ytbmpjphemjponaa
