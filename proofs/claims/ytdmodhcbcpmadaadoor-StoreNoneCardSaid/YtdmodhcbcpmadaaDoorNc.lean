/- log.Open (printed by gen_open.py). -/
import Derived.Test.YtdmodhcbcpmadaaDoorNb
import Derived.Test.YtdmodhcbcpmadaaDoorNa
import Derived.Test.YtdmodhcbcpmadaaDoorMs
import Derived.Test.YtdmodhcbcpmadaaDoorLs
set_option linter.unusedSimpArgs false
set_option linter.unusedVariables false
namespace Go.Proofs.YtdmodhcbcpmadaaDoor
open Go.RowKit

structure OpenR where
  d : Dk
  l : Option Lg
  ls : List (List UInt8)
  e : Nat
def lopen3 (s : Dk × Nat) (k : Nm) (res : Int) (sc : List (List UInt8) × Nat × Nat) : OpenR :=
  if s.2 ≠ 0 then ⟨s.1, none, [], s.2⟩ else if res < (sc.2.1 : Int) then ⟨s.1, none, [], 12⟩ else ⟨s.1, some ⟨k, res.toNat, sc.1.length, sc.2.1, false⟩, sc.1, 0⟩
def lopen2 (s : Dk × Nat) (k : Nm) (res : Int) (sc : List (List UInt8) × Nat × Nat) : OpenR :=
  if s.2 ≠ 0 then ⟨s.1, none, [], s.2⟩ else if sc.2.2 = 2 then ⟨s.1, none, [], 14⟩
  else lopen3 (if sc.2.2 = 1 then s.1.cut k (sc.2.1 : Int) else (s.1, 0)) k res sc
def lopen (d : Dk) (k : Nm) (res : Int) : OpenR :=
  if nameOk k = false ∨ res < 1 ∨ 67108864 < res then ⟨d, none, [], 2⟩
  else lopen2 (if 0 < d.loose k then d.sync k else (d, 0)) k res (scanL (d.file k).b)
def LogV (w0 w : World) (p : Nat) (pv : Value) : Option Lg → Prop
  | none => pv = .pointer none
  | some L => ∃ q, pv = .pointer (some ⟨q, 0, none⟩) ∧ LogAt w q p L ∧ w0.heap.size ≤ q
def OpenP (w : World) (p m : Nat) (r : OpenR) (e : Ending) (w' : World) : Prop := DiskAt w' p m r.d ∧ Dw w w' p m ∧ ∃ pv A c, e = .returned (.tuple #[pv, .slice A r.ls.length c, .int .i64 r.e]) ∧ Ls w' w'.heap.size A r.ls ∧ (A = none → r.ls = []) ∧ r.ls.length ≤ c ∧ LogV w w' p pv r.l
theorem OpenP.quit {w w' : World} {p m : Nat} {r : OpenR} {e : Ending} {d : Dk} {n : Nat} (hr : r = ⟨d, none, [], n⟩) (he : e = .returned (.tuple #[.pointer none, .slice none 0 0, .int .i64 n])) (hd : DiskAt w' p m d) (hw : Dw w w' p m) : OpenP w p m r e w' := by
  subst hr
  exact ⟨hd, hw, .pointer none, none, 0, he, fun i hi => absurd hi (by simp), fun _ => rfl, Nat.le_refl _, rfl⟩
def NoSl (w : World) (k : Nat) : Prop := ∀ i a n c, w.cell? ⟨k, i, none⟩ ≠ some (.slice a n c)
theorem Bw.ls {w w' : World} {S : List Nat} (h : Bw w w' S) (hs : ∀ k ∈ S, NoBytes w k ∧ NoSl w k) {B : Nat} (hB : B ≤ w.heap.size) {A : Option Addr} {l : List (List UInt8)} (hl : Ls w B A l) : Ls w' B A l := fun j hj => by
  obtain ⟨b, off, h1, h2, Ai, ci, h3, h4, h5⟩ := hl j hj
  exact ⟨b, off, h1, h2, Ai, ci, h.cell h3 (fun h6 => (hs b h6).2 _ _ _ _ h3), h.bs (fun k hk => (hs k hk).1) hB h4, h5⟩
theorem DiskAt.noSl {w : World} {p m : Nat} {d : Dk} (h : DiskAt w p m d) : ∀ k ∈ [p, m], NoBytes w k ∧ NoSl w k := fun k hk => ⟨h.noBytes k hk, fun i a n c hc => by
  simp at hk
  rcases hk with rfl | rfl
  · rw [cell_blk h.own] at hc
    match i, hc with
    | 0, hc => cases hc
    | 1, hc => cases hc
    | 2, hc => cases hc
    | 3, hc => cases hc
    | i + 4, hc => simp at hc
  · exact h.raw.no_map hc rfl⟩
theorem LogAt.noSl {w : World} {q p : Nat} {L : Lg} (h : LogAt w q p L) : NoBytes w q ∧ NoSl w q := ⟨h.noBytes, fun i a n c hc => by
  rw [cell_blk h] at hc
  match i, hc with
  | 0, hc => cases hc
  | 1, hc => cases hc
  | 2, hc => cases hc
  | 3, hc => cases hc
  | 4, hc => cases hc
  | 5, hc => cases hc
  | i + 6, hc => simp at hc⟩
theorem read_b (d : Dk) (k : Nm) : (d.read k).1 = (d.file k).b := by
  unfold Dk.read
  cases h : d.has k with
  | false => rw [if_pos rfl, (file_none h).2]; rfl
  | true => rw [if_neg (by decide)]
theorem read_e (d : Dk) (k : Nm) : (d.read k).2 = if d.has k = true then 0 else 6 := by
  unfold Dk.read
  cases h : d.has k <;> rfl
set_option maxRecDepth 100000 in
set_option maxHeartbeats 4000000 in
theorem open_at {w : World} {p m : Nat} {d : Dk} (h : DiskAt w p m d) (hw : d.writes < 100000000000) (k : Nm) (hk : k.length ≤ 1000000000) (res : Int) (hlen : (d.file k).b.length ≤ 1000000) :
    Calls Tryd.prog 21 #[.pointer (some ⟨p, 0, none⟩), .string (str k), .int .i64 res] w (OpenP w p m (lopen d k res)) := by
  have H := Lib.hid h
  have HLEN := Lib.hid hlen
  clear h
  go_enter Tryd.func21, Tryd.ntmps21
  go_wp2_with fail
  refine (read_at H.out k (Nat.le_trans hk (by decide))).mono ?_
  rintro e w1 ⟨A, cap, rfl, hbs, hA0, hcap, hb1⟩
  have hrb := read_b d k
  have hre : (((d.read k).2 : Int) == 1) = false := by rw [read_e]; cases d.has k <;> rfl
  generalize d.read k = rd at *
  obtain ⟨rb, re⟩ := rd
  simp only [] at hrb hre hbs hA0 hcap
  subst hrb
  have H1 := Lib.hid (H.out.below hb1)
  have HB1 := Lib.hid hb1; have HBS := Lib.hid hbs; have HA0 := Lib.hid hA0
  have hsa := scan_again _ (d.file k).b (Nat.le_refl _)
  have HSN : Hid ((scanL (d.file k).b).2.1 ≤ (d.file k).b.length ∧ (scanL (d.file k).b).2.2 ≤ 2) := Lib.hid ⟨hsa.2.1, hsa.2.2.2.1⟩
  clear hb1 hbs hA0 hsa
  cases hnn : nameOk k with
  | false =>
    have HE : Hid (lopen d k res = ⟨d, none, [], 2⟩) := Lib.hid (by unfold lopen; rw [if_pos (.inl hnn)])
    have HNM := Lib.hid (logname_any k hk w1)
    rw [hnn] at HNM
    go_wp2_with fail
    refine HNM.out.mono ?_
    rintro e w2 ⟨rfl, rfl⟩
    go_wp2_with fail
    go_ret3
    exact .quit HE.out rfl H1.out (.of_below HB1.out)
  | true =>
    have HNM := Lib.hid (logname_any k hk w1)
    rw [hnn] at HNM
    by_cases hr1 : res < 1
    · have HE : Hid (lopen d k res = ⟨d, none, [], 2⟩) := Lib.hid (by unfold lopen; rw [if_pos (.inr (.inl hr1))])
      go_wp2_with fail
      refine HNM.out.mono ?_
      rintro e w2 ⟨rfl, rfl⟩
      go_wp2_with fail
      go_ret3
      exact .quit HE.out rfl H1.out (.of_below HB1.out)
    by_cases hr2 : 67108864 < res
    · have HE : Hid (lopen d k res = ⟨d, none, [], 2⟩) := Lib.hid (by unfold lopen; rw [if_pos (.inr (.inr hr2))])
      go_wp2_with fail
      refine HNM.out.mono ?_
      rintro e w2 ⟨rfl, rfl⟩
      go_wp2_with fail
      go_ret3
      exact .quit HE.out rfl H1.out (.of_below HB1.out)
    have HC : Hid (¬ (nameOk k = false ∨ res < 1 ∨ 67108864 < res)) := Lib.hid (fun h => by rcases h with h | h | h; rw [hnn] at h; cases h; exact hr1 h; exact hr2 h)
    clear hnn
    obtain ⟨rn, rfl⟩ : ∃ rn : Nat, res = rn := ⟨res.toNat, by omega⟩
    have HLO := Lib.hid (loose_at H1.out k (Nat.le_trans hk (by decide)))
    go_wp2_with fail
    refine HNM.out.mono ?_
    rintro e w2 ⟨rfl, rfl⟩
    go_wp2_with fail
    refine HLO.out.mono ?_
    rintro e w3 ⟨rfl, hb3⟩
    have H3 := Lib.hid (H1.out.below hb3)
    have HB3 := Lib.hid (HB1.out.trans (hb3.mono HB1.out.size))
    have HBS3 := Lib.hid ((HBS.out.below hb3).more hb3.size)
    clear hb3 HNM HLO HBS HB1 H1
    by_cases hlo : 0 < d.loose k
    · have hlo2 : (0 : Int) < (d.loose k : Nat) := by omega
      have HE : Hid (lopen d k rn = lopen2 (d.sync k) k rn (scanL (d.file k).b)) := Lib.hid (by unfold lopen; rw [if_neg HC.out, if_pos hlo])
      have HSY := Lib.hid (sync_at H3.out (by omega) k (Nat.le_trans hk (by decide)))
      go_wp2_with fail
      refine HSY.out.mono ?_
      rintro e w4 ⟨rfl, h4, h5⟩
      have H4 := Lib.hid h4
      have HD4 := Lib.hid ((Dw.of_below (p := p) (m := m) HB3.out).trans h5)
      have HBS4 := Lib.hid ((H3.out.bs h5 (Nat.le_refl _) HBS3.out).more h5.size)
      have hwr : (d.sync k).1.writes ≤ d.writes + 1 := sync_writes d k
      clear h4 h5 HSY H3 HB3 HBS3 hlo hlo2
      generalize d.sync k = s at *
      obtain ⟨d4, e4⟩ := s
      simp only [] at hwr
      have H4d : Hid (DiskAt w4 p m d4) := Lib.hid H4.out
      clear H4
      by_cases h0 : e4 = 0
      · subst h0
        go_wp2_with fail
        refine (scan_any (d.file k).b HLEN.out A cap w4 HBS4.out hcap).mono ?_
        rintro e w6 ⟨v, vs, rfl, hown, hrows, hb6⟩
        obtain ⟨As, cs6, rfl, hls, hcl, hAs⟩ := Ls.rows hown hrows rfl
        have HLS := Lib.hid hls; have HCL := Lib.hid hcl; have HAS := Lib.hid hAs
        have HD6 := Lib.hid (H4d.out.below hb6)
        have HW6 := Lib.hid (HD4.out.trans (.of_below hb6))
        clear hown hrows hb6 hls hcl hAs
        have HL6 := Lib.hid HLEN.out
        generalize (d.file k).b.length = lb at *
        generalize scanL (d.file k).b = sc at *
        obtain ⟨ls6, n6, how6⟩ := sc
        have hn6 : n6 ≤ 1000000 := by have := HSN.out.1; have := HL6.out; simp only [] at *; omega
        by_cases h2 : how6 = 2
        · subst h2
          have HE6 : Hid (lopen d k rn = ⟨d4, none, [], 14⟩) := Lib.hid (by rw [HE.out]; unfold lopen2; rw [if_neg (fun h => h rfl), if_pos rfl])
          go_wp2_with fail
          go_ret3
          exact .quit HE6.out rfl HD6.out HW6.out
        · by_cases h1 : how6 = 1
          · subst h1
            have HE6 : Hid (lopen d k rn = lopen3 (d4.cut k (n6 : Int)) k rn (ls6, n6, 1)) := Lib.hid (by rw [HE.out]; unfold lopen2; rw [if_neg (fun h => h rfl), if_neg (fun h => by cases h), if_pos rfl])
            have HCU := Lib.hid (cut_at HD6.out (by omega) k (Nat.le_trans hk (by decide)) (n6 : Int) (by omega))
            clear h2
            go_wp2_with fail
            refine HCU.out.mono ?_
            rintro e w7 ⟨rfl, h7, h8⟩
            have H7 := Lib.hid h7
            have HW7 := Lib.hid (HW6.out.trans h8)
            have HLS7 := Lib.hid ((h8.bw.ls HD6.out.noSl (Nat.le_refl _) HLS.out).more h8.size)
            clear h7 h8 HCU HLS HW6 HD6
            generalize d4.cut k (n6 : Int) = s at *
            obtain ⟨d7, e7⟩ := s
            have HD7 : Hid (DiskAt w7 p m d7) := Lib.hid H7.out
            clear H7
            by_cases h0 : e7 = 0
            · subst h0
              by_cases hrs : (rn : Int) < (n6 : Int)
              · have HE9 : Hid (lopen d k rn = ⟨d7, none, [], 12⟩) := Lib.hid (by rw [HE6.out]; unfold lopen3; rw [if_neg (fun h => h rfl), if_pos hrs])
                go_wp2_with fail
                go_ret3
                exact .quit HE9.out rfl HD7.out HW7.out
              · have HE9 : Hid (lopen d k rn = ⟨d7, some ⟨k, rn, ls6.length, n6, false⟩, ls6, 0⟩) := Lib.hid (by rw [HE6.out]; unfold lopen3; rw [if_neg (fun h => h rfl), if_neg hrs]; rfl)
                go_wp2_with fail
                go_ret3
                have hbb := boxes1 w7 (.cells #[.pointer (some ⟨p, 0, none⟩), .string (str k), .int .i64 rn, .int .i64 ls6.length, .int .i64 n6, .bool false] 80)
                rw [HE9.out]
                exact ⟨HD7.out.below hbb.2, HW7.out.trans (.of_below hbb.2), _, As, cs6, rfl, (HLS7.out.below hbb.2).more hbb.2.size, HAS.out, HCL.out, _, rfl, hbb.1, HW7.out.size⟩
            · have h3 : ((e7 : Int) != 0) = true := by simpa using h0
              have HE7 : Hid (lopen d k rn = ⟨d7, none, [], e7⟩) := Lib.hid (by rw [HE6.out]; unfold lopen3; rw [if_pos h0])
              clear h0
              go_wp2_with fail
              go_ret3
              exact .quit HE7.out rfl HD7.out HW7.out
          · have HE6 : Hid (lopen d k rn = lopen3 (d4, 0) k rn (ls6, n6, how6)) := Lib.hid (by rw [HE.out]; unfold lopen2; rw [if_neg (fun h => h rfl), if_neg h2, if_neg h1])
            have h3 : ((how6 : Int) == 2) = false := by simpa using fun h => h2 (by omega)
            have h4 : ((how6 : Int) == 1) = false := by simpa using fun h => h1 (by omega)
            clear h1 h2
            by_cases hrs : (rn : Int) < (n6 : Int)
            · have HE9 : Hid (lopen d k rn = ⟨d4, none, [], 12⟩) := Lib.hid (by rw [HE6.out]; unfold lopen3; rw [if_neg (fun h => h rfl), if_pos hrs])
              go_wp2_with fail
              go_ret3
              exact .quit HE9.out rfl HD6.out HW6.out
            · have HE9 : Hid (lopen d k rn = ⟨d4, some ⟨k, rn, ls6.length, n6, false⟩, ls6, 0⟩) := Lib.hid (by rw [HE6.out]; unfold lopen3; rw [if_neg (fun h => h rfl), if_neg hrs]; rfl)
              go_wp2_with fail
              go_ret3
              have hbb := boxes1 w6 (.cells #[.pointer (some ⟨p, 0, none⟩), .string (str k), .int .i64 rn, .int .i64 ls6.length, .int .i64 n6, .bool false] 80)
              rw [HE9.out]
              exact ⟨HD6.out.below hbb.2, HW6.out.trans (.of_below hbb.2), _, As, cs6, rfl, (HLS.out.below hbb.2).more hbb.2.size, HAS.out, HCL.out, _, rfl, hbb.1, HW6.out.size⟩
      · have h1 : ((e4 : Int) != 0) = true := by simpa using h0
        have HE2 : Hid (lopen d k rn = ⟨d4, none, [], e4⟩) := Lib.hid (by rw [HE.out]; unfold lopen2; rw [if_pos h0])
        clear h0
        go_wp2_with fail
        go_ret3
        exact .quit HE2.out rfl H4d.out HD4.out
    · have hlo2 : ¬ (0 : Int) < (d.loose k : Nat) := by omega
      have HE : Hid (lopen d k rn = lopen2 (d, 0) k rn (scanL (d.file k).b)) := Lib.hid (by unfold lopen; rw [if_neg HC.out, if_neg hlo])
      have HD3 : Hid (Dw w w3 p m) := Lib.hid (.of_below HB3.out)
      have hwr : d.writes ≤ d.writes + 1 := by omega
      clear hlo HB3
      go_wp2_with fail
      refine (scan_any (d.file k).b HLEN.out A cap w3 HBS3.out hcap).mono ?_
      rintro e w6 ⟨v, vs, rfl, hown, hrows, hb6⟩
      obtain ⟨As, cs6, rfl, hls, hcl, hAs⟩ := Ls.rows hown hrows rfl
      have HLS := Lib.hid hls; have HCL := Lib.hid hcl; have HAS := Lib.hid hAs
      have HD6 := Lib.hid (H3.out.below hb6)
      have HW6 := Lib.hid (HD3.out.trans (.of_below hb6))
      clear hown hrows hb6 hls hcl hAs
      have HL6 := Lib.hid HLEN.out
      generalize (d.file k).b.length = lb at *
      generalize scanL (d.file k).b = sc at *
      obtain ⟨ls6, n6, how6⟩ := sc
      have hn6 : n6 ≤ 1000000 := by have := HSN.out.1; have := HL6.out; simp only [] at *; omega
      by_cases h2 : how6 = 2
      · subst h2
        have HE6 : Hid (lopen d k rn = ⟨d, none, [], 14⟩) := Lib.hid (by rw [HE.out]; unfold lopen2; rw [if_neg (fun h => h rfl), if_pos rfl])
        go_wp2_with fail
        go_ret3
        exact .quit HE6.out rfl HD6.out HW6.out
      · by_cases h1 : how6 = 1
        · subst h1
          have HE6 : Hid (lopen d k rn = lopen3 (d.cut k (n6 : Int)) k rn (ls6, n6, 1)) := Lib.hid (by rw [HE.out]; unfold lopen2; rw [if_neg (fun h => h rfl), if_neg (fun h => by cases h), if_pos rfl])
          have HCU := Lib.hid (cut_at HD6.out (by omega) k (Nat.le_trans hk (by decide)) (n6 : Int) (by omega))
          clear h2
          go_wp2_with fail
          refine HCU.out.mono ?_
          rintro e w7 ⟨rfl, h7, h8⟩
          have H7 := Lib.hid h7
          have HW7 := Lib.hid (HW6.out.trans h8)
          have HLS7 := Lib.hid ((h8.bw.ls HD6.out.noSl (Nat.le_refl _) HLS.out).more h8.size)
          clear h7 h8 HCU HLS HW6 HD6
          generalize d.cut k (n6 : Int) = s at *
          obtain ⟨d7, e7⟩ := s
          have HD7 : Hid (DiskAt w7 p m d7) := Lib.hid H7.out
          clear H7
          by_cases h0 : e7 = 0
          · subst h0
            by_cases hrs : (rn : Int) < (n6 : Int)
            · have HE9 : Hid (lopen d k rn = ⟨d7, none, [], 12⟩) := Lib.hid (by rw [HE6.out]; unfold lopen3; rw [if_neg (fun h => h rfl), if_pos hrs])
              go_wp2_with fail
              go_ret3
              exact .quit HE9.out rfl HD7.out HW7.out
            · have HE9 : Hid (lopen d k rn = ⟨d7, some ⟨k, rn, ls6.length, n6, false⟩, ls6, 0⟩) := Lib.hid (by rw [HE6.out]; unfold lopen3; rw [if_neg (fun h => h rfl), if_neg hrs]; rfl)
              go_wp2_with fail
              go_ret3
              have hbb := boxes1 w7 (.cells #[.pointer (some ⟨p, 0, none⟩), .string (str k), .int .i64 rn, .int .i64 ls6.length, .int .i64 n6, .bool false] 80)
              rw [HE9.out]
              exact ⟨HD7.out.below hbb.2, HW7.out.trans (.of_below hbb.2), _, As, cs6, rfl, (HLS7.out.below hbb.2).more hbb.2.size, HAS.out, HCL.out, _, rfl, hbb.1, HW7.out.size⟩
          · have h3 : ((e7 : Int) != 0) = true := by simpa using h0
            have HE7 : Hid (lopen d k rn = ⟨d7, none, [], e7⟩) := Lib.hid (by rw [HE6.out]; unfold lopen3; rw [if_pos h0])
            clear h0
            go_wp2_with fail
            go_ret3
            exact .quit HE7.out rfl HD7.out HW7.out
        · have HE6 : Hid (lopen d k rn = lopen3 (d, 0) k rn (ls6, n6, how6)) := Lib.hid (by rw [HE.out]; unfold lopen2; rw [if_neg (fun h => h rfl), if_neg h2, if_neg h1])
          have h3 : ((how6 : Int) == 2) = false := by simpa using fun h => h2 (by omega)
          have h4 : ((how6 : Int) == 1) = false := by simpa using fun h => h1 (by omega)
          clear h1 h2
          by_cases hrs : (rn : Int) < (n6 : Int)
          · have HE9 : Hid (lopen d k rn = ⟨d, none, [], 12⟩) := Lib.hid (by rw [HE6.out]; unfold lopen3; rw [if_neg (fun h => h rfl), if_pos hrs])
            go_wp2_with fail
            go_ret3
            exact .quit HE9.out rfl HD6.out HW6.out
          · have HE9 : Hid (lopen d k rn = ⟨d, some ⟨k, rn, ls6.length, n6, false⟩, ls6, 0⟩) := Lib.hid (by rw [HE6.out]; unfold lopen3; rw [if_neg (fun h => h rfl), if_neg hrs]; rfl)
            go_wp2_with fail
            go_ret3
            have hbb := boxes1 w6 (.cells #[.pointer (some ⟨p, 0, none⟩), .string (str k), .int .i64 rn, .int .i64 ls6.length, .int .i64 n6, .bool false] 80)
            rw [HE9.out]
            exact ⟨HD6.out.below hbb.2, HW6.out.trans (.of_below hbb.2), _, As, cs6, rfl, (HLS.out.below hbb.2).more hbb.2.size, HAS.out, HCL.out, _, rfl, hbb.1, HW6.out.size⟩
end Go.Proofs.YtdmodhcbcpmadaaDoor
