/- LogExact. -/
import Derived.Test.YtdmodhcbcpmadaaMg10
import Derived.Test.YtdmodhcbcpmadaaLs
set_option linter.unusedSimpArgs false
set_option linter.unusedVariables false
namespace Go.Proofs.Ytdmodhcbcpmadaa
open Go.RowKit

/-- what holds between two rounds. -/
structure LEx (w0 w : World) (B p m q i res : Nat) (d : Dk) (L : Lg) (v : Value) (b : List UInt8) (n : Nat) : Prop where
  lg : LG w0 w p m q d L v
  one : OneF d 10000 b
  name : L.name = [108]
  fine : L.broken = false
  size : L.size = b.length
  rsv : L.reserve = res
  ok : L.Ok
  few : d.writes ≤ 2 * i
  own : w.ownsRow B 5 1 v n (bcells b)
  hn : n = b.length
  hle : b.length ≤ res
theorem LEx.after {w0 w w' : World} {B p m q i res n : Nat} {d : Dk} {L : Lg} {v : Value} {b : List UInt8} (h : LEx w0 w B p m q i res d L v b n) (hb : Below w.heap.size w w') : LEx w0 w' B p m q i res d L v b n :=
  ⟨h.lg.after hb, h.one, h.name, h.fine, h.size, h.rsv, h.ok, h.few, own_below h.own hb, h.hn, h.hle⟩
/-- a record that fits no more. -/
theorem LEx.no {w0 w : World} {B p m q i res n : Nat} {d : Dk} {L : Lg} {v : Value} {b : List UInt8} (h : LEx w0 w B p m q i res d L v b n) (hi : i ≤ 40) (hres : res ≤ 5000) (r : List UInt8) (k : Nat) (hk : k = r.length) (hl : k ≤ 300) (hno : res < n + (k + 12)) (C : Option Addr) (capb : Nat) (hC : Bs w w.heap.size C r) (hC0 : C = none → r = []) :
    Calls Try.prog 39 #[.pointer (some ⟨q, 0, none⟩), .slice C k capb] w fun e w' => e = .returned (.int .i64 12) ∧ LEx w0 w' B p m q (i + 1) res d L v b n := by
  refine (h.lg.commit h.ok (by have := h.few; omega) r k hk C capb hC hC0).mono ?_
  have hnl := h.hn
  rcases commit_one (rec := r) h.one h.name h.fine h.size (by rw [h.rsv]; omega) (by omega) with ⟨h4, h5⟩ | ⟨h4, _⟩
  · rintro e w' ⟨he, h1, h2⟩
    rw [h5] at he h1
    exact ⟨he, h1, h.one, h.name, h.fine, h.size, h.rsv, h.ok, by have := h.few; omega, own_bw h.own h2 (h.lg.apart h.own (by decide) (by decide)), h.hn, h.hle⟩
  · rw [h.rsv] at h4; omega
/-- one that fits: the law has appended its frame. -/
theorem LEx.yes {w0 w : World} {B p m q i res n : Nat} {d : Dk} {L : Lg} {v : Value} {b : List UInt8} (lg : LG w0 w p m q d L v) (one : OneF d 10000 b) (name : L.name = [108]) (fine : L.broken = false) (size : L.size = b.length) (hr : L.reserve = res) (ok : L.Ok) (few : d.writes ≤ 2 * i)
    (hi : i ≤ 40) (hres : res ≤ 5000) (r : List UInt8) (k : Nat) (hk : k = r.length) (hl : k ≤ 300) (own : w.ownsRow B 5 1 v n (bcells (b ++ frameL r))) (hn : n = b.length + (k + 12)) (hno : n ≤ res) (C : Option Addr) (capb : Nat) (hC : Bs w w.heap.size C r) (hC0 : C = none → r = []) :
    Calls Try.prog 39 #[.pointer (some ⟨q, 0, none⟩), .slice C k capb] w fun e w' => e = .returned (.int .i64 0) ∧ ∃ d' L', LEx w0 w' B p m q (i + 1) res d' L' v (b ++ frameL r) n := by
  refine (lg.commit ok (by omega) r k hk C capb hC hC0).mono ?_
  have hfl := frame_length r
  rcases commit_one (rec := r) one name fine size (by rw [hr]; omega) (by omega) with ⟨h4, _⟩ | ⟨h4, d', h5, h6, h7⟩
  · rw [hr] at h4; omega
  · rintro e w' ⟨he, h1, h2⟩
    rw [h5] at he h1
    refine ⟨he, d', _, h1, h6, rfl, rfl, rfl, hr, ⟨ok.reserve, ?_, ?_, by show 1 ≤ 1000; decide⟩, by rw [h7]; omega, own_bw own h2 (lg.apart own (by decide) (by decide)), ?_, ?_⟩
    · show (b ++ frameL r).length ≤ L.reserve
      rw [List.length_append, hfl, hr]; omega
    · show L.n + 1 ≤ (b ++ frameL r).length
      rw [List.length_append, hfl]; have := ok.n; omega
    · rw [List.length_append, hfl]; omega
    · rw [List.length_append, hfl]; omega
set_option maxRecDepth 100000 in
set_option maxHeartbeats 8000000 in
theorem logexact_in (res : Nat) (hr1 : 1 ≤ res) (hr2 : res ≤ 5000) (l : List (List UInt8)) (A : Option Addr) (cap : Nat) (nl : Nat) (hnl : nl = l.length) (h40 : nl ≤ 40) (w : World) (hA : Ls w w.heap.size A l) :
    Calls Try.prog 8 #[.slice A nl cap, .int .i64 res] w fun e w' => e = .returned (.bool true) ∧ Below w.heap.size w w' := by
  have HA := Lib.hid hA; have HNL := Lib.hid hnl
  have HAW := Lib.hid (awake21 w)
  clear hA hnl
  go_enter Try.func8, Try.ntmps8
  go_wp2_with fail
  refine HAW.out.mono ?_
  rintro e w1 ⟨rfl, hb⟩
  have HB1 := Lib.hid hb
  clear hb HAW
  go_wp2_with fail
  refine (new_at 10000 (by decide) (by decide) w1).mono ?_
  rintro e w2 ⟨rfl, hd2, hb2⟩
  have HB2 := Lib.hid (HB1.out.trans (hb2.mono HB1.out.size))
  have HOP := Lib.hid (open_at hd2 (by decide) [108] (by decide) res (by decide))
  have hsz := HB1.out.size
  clear hd2 hb2
  go_wp2_with fail
  refine HOP.out.mono ?_
  intro e w3 h3
  obtain ⟨q, A3, c3, rfl, hs⟩ := s21_open (w0 := w) (n := 10000) (res := res) (by decide) hr1 (by omega) HB2.out (by omega) hsz h3
  have HS : Hid (LEx w w3 w.heap.size (w1.heap.size + 1) w1.heap.size q 0 res (emptyDk 10000) ⟨[108], res, 0, 0, false⟩ (.slice none 0 0) [] 0) := Lib.hid ⟨⟨.of_empty hs.disk rfl (fun b _ h => by cases h), hs.log, hs.below, hs.new⟩, hs.one, rfl, rfl, rfl, rfl, hs.ok, Nat.zero_le _, World.ownsRow_nil _ _ _ _, rfl, Nat.zero_le _⟩
  clear h3 hs HOP
  go_wp2_with fail
  go_loopw [11, 12, 13, 14, 15] (fun bv iv _ _ _ wr => ∃ (i : Nat) (d : Dk) (L : Lg) (b : List UInt8) (n : Nat), i ≤ nl ∧ iv = .int .i64 i ∧ LEx w wr w.heap.size (w1.heap.size + 1) w1.heap.size q i res d L bv b n) (fun _ iv _ _ _ _ => nl - (intOf iv).toNat)
  case atStart => exact ⟨0, _, _, _, _, by omega, rfl, HS.out⟩
  case round =>
    obtain ⟨i, d, L, b, n, hi, rfl, hle⟩ := hrel
    obtain ⟨Av, cv, rfl, hrd, hAv0, hcv⟩ := own_rd hle.own
    have HL := Lib.hid hle; have HRD := Lib.hid hrd.bs; have HAV0 := Lib.hid hAv0
    have hn := hle.hn
    have hnr := hle.hle
    have HNB := Lib.hid hn
    rw [← hn] at hnr
    clear hle hrd hAv0 hn
    by_cases hlt : i < nl
    · obtain ⟨bl, off, rfl, hbl, Ai, ci, hc, hbs, hnil⟩ := (HA.out.below HL.out.lg.below) i (by have := HNL.out; omega)
      have HCELL : Hid (∀ W, Below w.heap.size w W → W.cell? ⟨bl, off + i, none⟩ = some (.slice Ai (l.getD i []).length ci) ∧ Bs W W.heap.size Ai (l.getD i [])) := Lib.hid fun W hW => by
        obtain ⟨bl', off', e, _, Aj, cj, hc', hbs', _⟩ := (HA.out.below hW) i (by have := HNL.out; omega)
        injection e with e; injection e with e1 e2 _
        subst e1 e2
        have hc2 : w.cell? ⟨bl, off + i, none⟩ = W.cell? ⟨bl, off + i, none⟩ := (hW.cell (p := ⟨bl, _, none⟩) hbl).symm
        have hc3 : w.cell? ⟨bl, off + i, none⟩ = wr.cell? ⟨bl, off + i, none⟩ := (HL.out.lg.below.cell (p := ⟨bl, _, none⟩) hbl).symm
        rw [← hc2, hc3, hc] at hc'
        injection hc' with hc'
        injection hc' with e3 e4 e5
        subst e3 e5
        exact ⟨by rw [← hc2, hc3, hc], hbs'.more hW.size⟩
      have HNIL := Lib.hid hnil
      clear hc hbs hnil
      generalize l.getD i [] = r at *
      obtain ⟨k, hk⟩ : ∃ k, k = r.length := ⟨_, rfl⟩
      rw [← hk] at HCELL
      have HK := Lib.hid hk
      clear hk
      have c1 := (HCELL.out wr HL.out.lg.below).1
      have hq1 : (i : Int) < (nl : Int) := by omega
      by_cases hlo : 300 < k
      · go_wp2_with fail
        go_ret
        exact ⟨rfl, HL.out.lg.below⟩
      have hF := frame_any r (by have := HK.out; omega) Ai ci wr (HCELL.out wr HL.out.lg.below).2 HNIL.out
      rw [← HK.out] at hF
      have HF := Lib.hid hF
      clear hF
      go_wp2_with fail
      refine HF.out.mono ?_
      rintro e w4 ⟨v4, rfl, ho4, hb4⟩
      obtain ⟨A4, c4, rfl, hr4, hA4, hc4⟩ := own_rd ho4
      have HL4 := Lib.hid (HL.out.after hb4); have HR4 := Lib.hid hr4; have HA4 := Lib.hid hA4
      clear ho4 hb4 hr4 hA4 c1
      have HFL : Hid ((bcells (frameL r)).length = k + 12) := Lib.hid (by rw [bcells_length, frame_length, ← HK.out])
      generalize hk12 : k + 12 = k12 at *
      have HK12 := Lib.hid hk12
      have hk12b : k12 ≤ 312 := by omega
      clear hk12
      by_cases hfit : n + k12 ≤ res
      · have g1 : ((n : Int) + (k12 : Int) ≤ (res : Int)) := by omega
        have hown := HL4.out.own
        have HAP := Lib.hid (HL4.out.lg.apart hown (by decide) (by decide))
        have HOW := Lib.hid hown
        have HOLT := Lib.hid hown.lt
        clear hown
        go_wp2_with (at_builtin; refine wpList_append_src E5 rfl (.tmp 76) (.tmp 77) rfl w.heap.size _ n (bcells b) rfl HOW.out w4.heap.size A4 (bcells (frameL r)) k12 c4 rfl HFL.out HR4.out HA4.out (bcells_one _) (by omega) (by omega) w4 HL4.out.lg.below.size (Below.refl _ _) ?_; intro v5 w5 h2 h3 h4 h5; have O5 := Lib.hid h2; have G5 := Lib.hid h4; have V5 := Lib.hid h5; clear h2 h3 h4 h5; obtain ⟨A5, c5, rfl, _, _, _⟩ := own_rd O5.out
                     have HL5 : Hid (LG w w5 (w1.heap.size + 1) w1.heap.size q d L (.slice A5 (n + k12) c5)) := Lib.hid (HL4.out.lg.row G5.out HAP.out (by
                       rcases V5.out with e | e
                       · exact .inl e
                       · exact .inr ⟨_, e, Nat.le_refl _, (O5.out.lt _ e).2⟩) (fun k hk => (HOLT.out k hk).1))
                     have HY := Lib.hid (LEx.yes HL5.out HL4.out.one HL4.out.name HL4.out.fine HL4.out.size HL4.out.rsv HL4.out.ok HL4.out.few (by omega) hr2 r k HK.out (by omega) (by have := O5.out; rwa [← bcells_app] at this) (by have := HK12.out; have := HNB.out; omega) hfit Ai ci (HCELL.out w5 HL5.out.below).2 HNIL.out)
                     have c2 := (HCELL.out w5 HL5.out.below).1)
        refine HY.out.mono ?_
        rintro e w6 ⟨rfl, d', L', hl6⟩
        have HL6 := Lib.hid hl6
        clear hl6 c2
        go_wp2_with fail
        go_roundw
        case rel => exact ⟨i + 1, _, _, _, _, by omega, by go_num, HL6.out⟩
        case measure => simp [intOf]; omega
      · have g1 : (res : Int) < (n : Int) + (k12 : Int) := by omega
        have g2 : decide ((n : Int) + (k12 : Int) ≤ (res : Int)) = false := decide_eq_false (by omega)
        have c2 := (HCELL.out w4 HL4.out.lg.below).1
        have HN := Lib.hid (HL4.out.no (by omega) hr2 r k HK.out (by omega) (by have := HK12.out; omega) Ai ci (HCELL.out w4 HL4.out.lg.below).2 HNIL.out)
        go_wp2_with fail
        refine HN.out.mono ?_
        rintro e w6 ⟨rfl, hl6⟩
        have HL6 := Lib.hid hl6
        clear hl6 c2
        go_wp2_with fail
        go_roundw
        case rel => exact ⟨i + 1, _, _, _, _, by omega, by go_num, HL6.out⟩
        case measure => simp [intOf]; omega
    · obtain rfl : i = nl := by omega
      have HRE := Lib.hid (read_at HL.out.lg.disk.to [108] (by decide))
      have hf : (d.read [108]).1 = b := by rw [read_b, HL.out.one.file]
      unfold ReadP at HRE
      rw [hf, ← HNB.out] at HRE
      clear hf
      go_wp2_with fail
      refine HRE.out.mono ?_
      rintro e w6 ⟨A6, c6, rfl, hb6, ha6, _, hbw⟩
      have HL6 := Lib.hid (HL.out.after hbw)
      have HSB := Lib.hid (same_bytes b b A6 Av n n c6 cv w6 w6.heap.size w6.heap.size HNB.out HNB.out hb6 ha6 ((HRD.out.below hbw).more hbw.size) (fun h => List.eq_nil_of_length_eq_zero (by rw [← HNB.out]; exact HAV0.out h)))
      have HSZ := Lib.hid (lsize_at HL6.out.lg.log)
      rw [decide_eq_true rfl] at HSB
      rw [HL6.out.size, ← HNB.out] at HSZ
      clear hb6 ha6 hbw HRE
      go_wp2_with fail
      refine HSB.out.mono ?_
      rintro e w7 ⟨rfl, rfl⟩
      go_wp2_with fail
      refine HSZ.out.mono ?_
      rintro e w8 ⟨rfl, rfl⟩
      go_wp2_with fail
      go_ret
      exact ⟨rfl, HL6.out.lg.below⟩
set_option maxRecDepth 100000 in
set_option maxHeartbeats 2000000 in
theorem logexact_walk (l : List (List UInt8)) (A : Option Addr) (cap : Nat) (res : Int) (w : World) (hA : Ls w w.heap.size A l) (hl : l.length ≤ 140737488351232 ∧ ∀ x ∈ l, x.length ≤ 140737488351232) (hr : (-9223372036854775808 : Int) ≤ res ∧ res ≤ 9223372036854775807) :
    Calls Try.prog 8 #[.slice A l.length cap, .int .i64 res] w fun e w' => e = .returned (.bool true) ∧ Below w.heap.size w w' := by
  obtain ⟨nl, hnl⟩ : ∃ nl, nl = l.length := ⟨_, rfl⟩
  rw [← hnl] at hl ⊢
  have hn63 := hl.1
  by_cases hin : nl ≤ 40 ∧ 1 ≤ res ∧ res ≤ 5000
  · obtain ⟨h1, h2, h3⟩ := hin
    obtain ⟨R, rfl⟩ : ∃ R : Nat, res = R := ⟨res.toNat, by omega⟩
    exact logexact_in R (by omega) (by omega) l A cap nl hnl h1 w hA
  · have HAW := Lib.hid (awake21 w)
    clear hA hl hr hnl
    by_cases h1 : 40 < nl
    · skip
      go_enter Try.func8, Try.ntmps8
      go_wp2_with fail
      refine HAW.out.mono ?_
      rintro e w1 ⟨rfl, hb⟩
      have HB1 := Lib.hid hb
      clear hb HAW
      go_wp2_with fail
      go_ret
      exact ⟨rfl, HB1.out⟩
    by_cases h2 : res < 1
    · skip
      go_enter Try.func8, Try.ntmps8
      go_wp2_with fail
      refine HAW.out.mono ?_
      rintro e w1 ⟨rfl, hb⟩
      have HB1 := Lib.hid hb
      clear hb HAW
      go_wp2_with fail
      go_ret
      exact ⟨rfl, HB1.out⟩
    have h3 : 5000 < res := by omega
    go_enter Try.func8, Try.ntmps8
    go_wp2_with fail
    refine HAW.out.mono ?_
    rintro e w1 ⟨rfl, hb⟩
    have HB1 := Lib.hid hb
    clear hb HAW
    go_wp2_with fail
    go_ret
    exact ⟨rfl, HB1.out⟩
end Go.Proofs.Ytdmodhcbcpmadaa
