/- norm.Least: the walk. -/
import Derived.Test.YtaalinhkikmfaaaEc
set_option linter.unusedSimpArgs false
set_option linter.unusedVariables false
namespace Go.Proofs.Ytaalinhkikmfaaa
open Go.RowKit

def LeastP (l : List Ev) (n : Int) (w : World) (r : Ending) (w' : World) : Prop :=
  Below w.heap.size w w' ∧ ((wrongE l n ≠ 0 ∧ r = .returned (.tuple #[.slice none 0 0, .int .i64 (wrongE l n : Nat)])) ∨
    (wrongE l n = 0 ∧ ∃ v, r = .returned (.tuple #[v, .int .i64 0]) ∧ w'.ownsRow w.heap.size 3 1 v l.length (icl (leastX l)) ∧ Spare (.int .i64 0) l.length v w'))
theorem tassert (x : Int) (W : World) : (Instr.typeAssert (.iface 3 (.int .i64 x)) 20 3 false).run Try.prog W = .ok (.int .i64 x) W := by kernel_rfl
theorem own_lowI {w : World} {B B' n : Nat} {v : Value} {xs : List Value} (h : w.ownsRow B 3 1 v n xs) (hB : B' ≤ B) : w.ownsRow B' 3 1 v n xs := ⟨h.1, h.2.imp id fun ⟨g, cap, cur, e, hb, r⟩ => ⟨g, cap, cur, e, Nat.le_trans hB hb, r⟩⟩
theorem lf_le (l : List Ev) (o : List Nat) (k : Nat) : lf l o k ≤ k := by
  unfold lf
  have := List.length_filter_le (fun i => hb l i k && decide (i ∉ o)) (List.range k)
  simpa using this
def slen : Value → Nat
  | .slice _ n _ => n
  | _ => 0
theorem lst_new {l : List Ev} (w2 : World) (m : Nat) (A : Option Addr) (cap : Nat) : LSt l w2.heap.size (w2.heap.size + 1) m (.slice A m cap) (.slice none 0 0) w2 (fun k => if k < 0 then lf l [] k else 0) (fun x => x < 0 ∧ Rdy l [] x) 0 (fun _ => 0) ((w2.alloc (.cells (Array.replicate m (.int .i64 0)) 3)).alloc (.cells #[.slice A m cap, .slice none 0 0] 65)) := by
  have h1 := heap_alloc_new (w2.alloc (.cells (Array.replicate m (.int .i64 0)) 3)) (.cells #[.slice A m cap, .slice none 0 0] 65)
  rw [show (w2.alloc (.cells (Array.replicate m (.int .i64 0)) 3)).heap.size = w2.heap.size + 1 by simp] at h1
  refine ⟨((Below.refl w2.heap.size w2).alloc (Nat.le_refl _) _).alloc (by simp) _, ⟨_, alloc_blk (heap_alloc_new w2 _) _, by simp, fun k hk => by simp [hk]⟩, ⟨.slice none 0 0, h1, World.ownsRow_nil _ _ _ _, fun k hk => ?_⟩, fun c _ h => by omega, fun i j h => by omega, fun x => ⟨fun ⟨i, h, _⟩ => by omega, fun h => by omega⟩⟩
  rcases hk with hk | hk
  · exact ⟨by simp; omega, by omega, by simp [Value.ownBlock]⟩
  · simp [Value.ownBlock] at hk
set_option maxRecDepth 100000 in
set_option maxHeartbeats 8000000 in
theorem least_any (l : List Ev) (m : Nat) (hm : m = l.length) (hl : m ≤ 4611686018427387904) (n : Int) (A : Option Addr) (cap : Nat) (hcap : m ≤ cap) (w : World) (hA : Evs w w.heap.size A l) :
    Calls Try.prog 10 #[.slice A m cap, .int .i64 n] w (LeastP l n w) := by
  have HA := Lib.hid hA; have HM := Lib.hid hm
  have HCL := Lib.hid (clocks_any l (by omega) n A cap (by omega) w hA)
  rw [← hm] at HCL
  clear hA hm
  go_enter Try.func10, Try.ntmps10
  go_wp2_with fail
  with_reducible refine HCL.out.mono ?_
  rintro e w1 ⟨hb1, hcase⟩
  have HB1 := Lib.hid hb1
  clear HCL hb1
  rcases hcase with ⟨hw, rfl⟩ | ⟨hw, v, gc, cur, rfl, hv, hg1, hg, hcl⟩
  · have hn0 : ((wrongE l n : Nat) : Int) ≠ 0 := by omega
    have HW0 := Lib.hid hw
    have d0 : (((wrongE l n : Nat) : Int) != 0) = true := by rw [bne_iff_ne]; exact hn0
    have HE : Hid (LeastP l n w (.returned (.tuple #[.slice none 0 0, .int .i64 (wrongE l n : Nat)])) w1) := Lib.hid ⟨HB1.out, .inl ⟨hw, rfl⟩⟩
    generalize wrongE l n = we at *
    clear hw hn0
    go_wp2_with fail
    go_ret2
    exact HE.out
  obtain ⟨x1, x2, x3, x4⟩ := wrong_ok hw
  have HG := Lib.hid (fun i (hi : i < m) => good_at x4 (show i < l.length by rw [← HM.out]; exact hi))
  have HWR := Lib.hid hw
  have hm10 : m ≤ 1024 := by rw [HM.out]; exact x3
  clear hw x3 x4
  have HN : Hid (∃ n' : Nat, n = n') := Lib.hid (Int.eq_ofNat_of_zero_le (show 0 ≤ n by omega))
  obtain ⟨n', hn'⟩ := HN.out
  rw [hn', Int.toNat_natCast] at hv hcl
  have hn10 : n' ≤ 1000 := by omega
  obtain ⟨Ad, cd, rfl, hck⟩ := clk_of (l := l) (by exact hv) hg hcl
  have HD := Lib.hid hck
  have HPA := Lib.hid (pasts_any l m HM.out (by omega) n' hn10 (fun i hi => by have := HG.out i hi; omega) A Ad cap cd w.heap.size w1.heap.size w1 (HA.out.below HB1.out) HB1.out.size (by rw [HM.out]; exact hck) (Nat.le_refl _))
  rw [HM.out] at HPA
  rw [← HM.out] at HPA
  clear hv hg hcl hck hg1 cur
  have hll : l.length = m := HM.out.symm
  rw [hll]
  have HLL := Lib.hid hll
  clear hll
  go_wp2_with fail
  with_reducible refine HPA.out.mono ?_
  rintro e w2 ⟨P, F, val, rfl, hmp, hmf, hfam, hP, hF, hPF, hb2⟩
  have HB2 := Lib.hid (HB1.out.trans (hb2.mono HB1.out.size))
  have HEV := Lib.hid (HA.out.below HB2.out)
  have HMP := Lib.hid hmp; have HMF := Lib.hid hmf; have HFA := Lib.hid hfam
  have HPL := Lib.hid hmp.lt; have HFL := Lib.hid hmf.lt
  clear hmp hmf hfam hP hF hPF hb2 HPA
  have hmk := fun W => run_make_el EI m m (by simp) (by omega) (by omega) W
  go_wp2_with fail
  have HW4 : Hid (∃ W, W = (w2.alloc (.cells (Array.replicate m (.int .i64 0)) 3)).alloc (.cells #[.slice A m cap, .slice none 0 0] 65)) := Lib.hid ⟨_, rfl⟩
  obtain ⟨w4, hw4⟩ := HW4.out
  have LS0 : Hid (LSt l w2.heap.size (w2.heap.size + 1) m (.slice A m cap) (.slice none 0 0) w2 (fun k => if k < 0 then lf l [] k else 0) (fun x => x < 0 ∧ Rdy l [] x) 0 (fun _ => 0) w4) := Lib.hid (by
    subst hw4
    exact lst_new w2 m A cap)
  rw [← hw4]
  obtain ⟨L, hL⟩ : ∃ L, L = w2.heap.size := ⟨_, rfl⟩
  rw [← hL]
  rw [← hL] at LS0 HPL HFL
  obtain ⟨g, hg⟩ : ∃ g, g = L + 1 := ⟨_, rfl⟩
  rw [← hg]
  rw [← hg] at LS0
  have HLE := Lib.hid hL
  have HB0 : Hid (w.heap.size ≤ w2.heap.size) := Lib.hid HB2.out.size
  have HCP : Hid (∀ W, Below w2.heap.size w2 W → ∀ k, k < m → ∃ Ak ck, W.cell? ⟨P, k, none⟩ = some (.slice Ak (lf l [] k) ck)) := Lib.hid fun W hW k hk => by
    obtain ⟨Ak, ck, e, _⟩ := own_rd (HFA.out.own k (by omega))
    have h1 := ((HMP.out.at (hW.block P HMP.out.lt)).cell hk).1
    rw [Nat.zero_add, e] at h1
    rw [lf_nil]
    have h2 : pf l m k = pastL l k := by unfold pf; rw [if_pos hk]
    rw [h2] at h1
    exact ⟨Ak, ck, h1⟩
  clear hw4 hL hg hmk
  go_loopw [40] (fun iv wr => ∃ (i nn : Nat) (a : Nat → Nat), i ≤ m ∧ iv = .int .i64 (i : Nat) ∧ LSt l L g m (.slice A m cap) (.slice none 0 0) w2 (fun k => if k < i then lf l [] k else 0) (fun x => x < i ∧ Rdy l [] x) nn a wr) (fun iv _ => m - (intOf iv).toNat)
  case atStart => exact ⟨0, 0, _, by omega, by go_num, LS0.out⟩
  case round =>
    obtain ⟨i, nn, a, hi, rfl, hst⟩ := hrel
    have HST := Lib.hid hst
    clear hst
    by_cases hlt : i < m
    · obtain ⟨Ai, ci, c1⟩ := HCP.out wr HST.out.bel i hlt
      obtain ⟨c2, f2⟩ := HST.out.lcs.cell hlt
      simp only [Nat.lt_irrefl, if_false] at c2
      have c3 : (wr.setCell ⟨L, i, none⟩ (.int .i64 (lf l [] i : Nat))).cell? ⟨L, i, none⟩ = some (.int .i64 (lf l [] i : Nat)) := by
        have := ((HST.out.lcs.set i (lf l [] i)).cell hlt).1
        rwa [upd_at] at this
      have HST2 := Lib.hid (HST.out.count HLE.out i (lf l [] i))
      have hlc : ∀ k, k < m → upd (fun k => if k < i then lf l [] k else 0) i (lf l [] i) k = if k < i + 1 then lf l [] k else 0 := fun k hk => by
        by_cases e : k = i
        · subst e; rw [upd_at, if_pos (by omega)]
        · rw [upd_ne _ _ e]
          by_cases h : k < i
          · rw [if_pos h, if_pos (by omega)]
          · rw [if_neg h, if_neg (by omega)]
      have HLC := Lib.hid hlc
      clear hlc
      by_cases hz : lf l [] i = 0
      · have HZ := Lib.hid hz
        have HPU := Lib.hid (HST2.out.hpush HLE.out HEV.out HB0.out HM.out (by omega) (fun x hx => by omega) i hlt (fun h => by omega))
        unfold rif at HPU
        rw [hz] at c1 c3 HPU HST2
        rw [show ((0 : Nat) : Int) = 0 from rfl] at HPU
        clear hz
        go_wp2_with fail
        with_reducible refine HPU.out.mono ?_
        rintro e w5 ⟨rfl, _, a', h5⟩
        have HS5 := Lib.hid h5
        clear h5
        go_wp2_with fail
        refine ⟨⟨i + 1, nn + 1, a', by omega, by go_num, HS5.out.congr (fun k hk => by have := HLC.out k hk; rw [HZ.out] at this; exact this) fun x => ?_⟩, by simp [intOf]; omega⟩
        have hri : Rdy l [] i := (rdy_lf (by rw [← HM.out]; exact hlt) (by simp)).2 HZ.out
        constructor
        · rintro (⟨h1, h2⟩ | rfl)
          · exact ⟨by omega, h2⟩
          · exact ⟨by omega, hri⟩
        · rintro ⟨h1, h2⟩
          by_cases e : x = i
          · exact .inr e
          · exact .inl ⟨by omega, h2⟩
      · have HZ := Lib.hid hz
        have hz2 : ((lf l [] i : Nat) : Int) ≠ 0 := by omega
        have d0 : (((lf l [] i : Nat) : Int) == 0) = false := by rw [beq_eq_false_iff_ne]; exact hz2
        have hnr : ¬ Rdy l [] i := fun h => hz ((rdy_lf (by rw [← HM.out]; exact hlt) (by simp)).1 h)
        have HNR := Lib.hid hnr
        have HS5 : Hid (LSt l L g m (.slice A m cap) (.slice none 0 0) w2 (fun k => if k < i + 1 then lf l [] k else 0) (fun x => x < i + 1 ∧ Rdy l [] x) nn a (wr.setCell ⟨L, i, none⟩ (.int .i64 (lf l [] i : Nat)))) := Lib.hid (HST2.out.congr HLC.out fun x => by
          constructor
          · rintro ⟨h1, h2⟩
            exact ⟨by omega, h2⟩
          · rintro ⟨h1, h2⟩
            refine ⟨?_, h2⟩
            by_cases e : x = i
            · subst e; exact absurd h2 hnr
            · omega)
        clear HST2
        generalize hlf : lf l [] i = q at *
        clear hz hlf hz2 hnr
        go_wp2_with fail
        exact ⟨⟨i + 1, nn, a, by omega, by go_num, HS5.out⟩, by simp [intOf]; omega⟩
    · obtain rfl : m = i := by omega
      have HST3 : Hid (LSt l L g m (.slice A m cap) (.slice none 0 0) w2 (lf l []) (Rdy l []) nn a wr) := Lib.hid (HST.out.congr (fun k hk => if_pos hk) fun x => ⟨fun h => h.2, fun h => ⟨by have := h.1; rw [← HM.out] at this; exact this, h⟩⟩)
      clear HST LS0 HCP
      have hfl : ∀ x, x < m → (futL l x).length ≤ m := fun x hx => by
        unfold futL
        have := List.length_filter_le (fun j => hb l x j) (List.range l.length)
        rw [List.length_range] at this
        have := HM.out
        omega
      have HFLN := Lib.hid hfl
      have HCF : Hid (∀ x, x < m → ∃ Ax cx, ∀ W, Below w2.heap.size w2 W → W.cell? ⟨F, x, none⟩ = some (.slice Ax (futL l x).length cx) ∧ ∀ t (ht : t < (futL l x).length), ∃ b o, Ax = some ⟨b, o, none⟩ ∧ W.cell? ⟨b, o + t, none⟩ = some (.int .i64 ((futL l x)[t] : Nat))) := Lib.hid fun x hx => by
        have ho := HFA.out.own (m + x) (by omega)
        have h2 : pf l m (m + x) = futL l x := by unfold pf; rw [if_neg (by omega), show m + x - m = x by omega]
        rw [h2] at ho
        obtain ⟨Ax, cx, e, hr, _⟩ := own_rd ho
        refine ⟨Ax, cx, fun W hW => ?_⟩
        have h1 := ((HMF.out.at (hW.block F HMF.out.lt)).cell hx).1
        rw [e] at h1
        refine ⟨h1, fun t ht => ?_⟩
        obtain ⟨b, o, e1, e2, e3⟩ := hr t _ (icl_get ht)
        exact ⟨b, o, e1, (hW.cell (p := ⟨b, o + t, none⟩) e2).trans e3⟩
      have HSL : Hid (∀ x, Rdy l [] x → x < m) := Lib.hid fun x h => by rw [HM.out]; exact h.1
      clear hfl
      go_wp2_with fail
      go_loopw [13] (fun ov wr => ∃ (o : List Nat) (nn : Nat) (a : Nat → Nat), Gr l o ∧ o.length ≤ m ∧ wr.ownsRow (L + 1) 3 1 ov o.length (icl o) ∧ Spare (.int .i64 0) o.length ov wr ∧ LSt l L g m (.slice A m cap) ov w2 (lf l o) (Rdy l o) nn a wr) (fun ov _ => m - slen ov)
      case atStart => exact ⟨[], nn, a, .nil, by simp, World.ownsRow_nil _ _ _ _, Spare.nil _ _ _, HST3.out⟩
      case round =>
        obtain ⟨o, nn, a, hgr, hol, ho, hsp, hst⟩ := hrel
        obtain ⟨Ao, co, rfl, _⟩ := own_rd ho
        have HGR := Lib.hid hgr; have HO := Lib.hid ho; have HSP := Lib.hid hsp; have HSO := Lib.hid hst
        have HLN := Lib.hid hst.hlen
        have HRL : Hid (∀ x, Rdy l o x → x < m) := Lib.hid fun x h => by rw [HM.out]; exact h.1
        clear hgr ho hsp hst
        generalize hoL : o.length = q at *
        have HOL := Lib.hid hoL
        clear hoL
        cases nn with
        | zero =>
          go_wp2_with fail
          with_reducible refine HLN.out.mono ?_
          rintro e w5 ⟨rfl, rfl⟩
          go_wp2_with fail
          go_ret2
          have hfull : o.length = l.length := by
            have h1 := HGR.out.dn.length_le
            rcases Nat.lt_or_ge o.length l.length with h | h
            · obtain ⟨j, hj⟩ := rdy_some HGR.out.dn h
              obtain ⟨i, hi, _⟩ := (HSO.out.has j).2 hj
              omega
            · omega
          have he := leastX_eq HGR.out hfull
          have hq : q = l.length := HOL.out.symm.trans hfull
          have hbw : Below w.heap.size w w5 := HB2.out.trans (HSO.out.bel.mono HB2.out.size)
          refine ⟨hbw, .inr ⟨HWR.out, _, rfl, ?_, ?_⟩⟩
          · rw [← he, ← hq]
            exact own_lowI HO.out (by have := HB2.out.size; have := HLE.out; omega)
          · rw [← hq]; exact HSP.out
        | succ nn =>
          have HPO := Lib.hid (HSO.out.hpop HLE.out HEV.out HB0.out HM.out (by omega) HRL.out)
          unfold rif at HPO
          go_wp2_with fail
          with_reducible refine HLN.out.mono ?_
          rintro e w5 ⟨rfl, rfl⟩
          go_wp2_with fail
          with_reducible refine HPO.out.mono ?_
          rintro e w6 ⟨x, rfl, hx1, hx2, hx3, a6, h6⟩
          have HX1 := Lib.hid hx1; have HX2 := Lib.hid hx2; have H6 := Lib.hid h6
          have hxm := HRL.out x hx1
          have O6 := Lib.hid (hx3.own HO.out); have P6 := Lib.hid (hx3.spare HSP.out)
          have HSZ6 : Hid (L + 1 ≤ w6.heap.size) := Lib.hid ((h6.rq.lt).2 L (.inl (Nat.le_refl _)))
          clear hx1 hx2 hx3 h6 HPO
          have hta := tassert (x : Int)
          obtain ⟨Ax, cx, hcx⟩ := HCF.out x hxm
          have HCX := Lib.hid hcx
          clear hcx
          go_wp2_with (at_builtin; refine wpList_append_oneX EI rfl (.tmp 69) (.tmp 71) rfl (L + 1) (.int .i64 (x : Nat)) rfl _ q (icl o) rfl O6.out P6.out rfl (by omega) (by omega) HSZ6.out ?_; intro v7 w7 h71 h72 h73 h74; obtain ⟨A7, c7, e7, _⟩ := own_rd h71; subst e7; have O7 := Lib.hid h71; have P7 := Lib.hid h74; have H7 := Lib.hid (H6.out.row HLE.out (fun b hb => (O6.out.lt b hb).1) h72 h73); clear h71 h72 h73 h74; have c1 := (HCX.out w7 H7.out.bel).1)
          have HXR := Lib.hid hxm
          go_loopw [78] (fun tv wr => ∃ (t nn' : Nat) (a' : Nat → Nat), t ≤ (futL l x).length ∧ tv = .int .i64 (t : Nat) ∧ wr.ownsRow (L + 1) 3 1 (.slice A7 (q + 1) c7) (q + 1) (icl o ++ [.int .i64 (x : Nat)]) ∧ Spare (.int .i64 0) (q + 1) (.slice A7 (q + 1) c7) wr ∧ LSt l L g m (.slice A m cap) (.slice A7 (q + 1) c7) w2 (lcn l o x t) (HasT l o x t) nn' a' wr) (fun tv _ => (futL l x).length - (intOf tv).toNat)
          case atStart => exact ⟨0, nn, a6, by omega, by go_num, O7.out, P7.out, H7.out.congr (fun k _ => (lcn_zero l o x k).symm) fun y => by unfold HasT; simp⟩
          case round =>
            obtain ⟨t, nn', a8, ht, rfl, ho8, hp8, hs8⟩ := hrel
            have O8 := Lib.hid ho8; have P8 := Lib.hid hp8; have S8 := Lib.hid hs8
            clear ho8 hp8 hs8
            have hLf := HFLN.out x hxm
            by_cases htl : t < (futL l x).length
            · obtain ⟨b, of, rfl, e2⟩ := (HCX.out _ S8.out.bel).2 t htl
              obtain ⟨k, hk⟩ : ∃ k, k = (futL l x)[t] := ⟨_, rfl⟩
              rw [← hk] at e2
              have hkm : k < m := by rw [hk, HM.out]; exact (fut_hb (List.getElem_mem htl)).1
              obtain ⟨h1, h2⟩ := lcn_at HX1.out.2.1 htl
              rw [← hk] at h1 h2
              obtain ⟨d1, fd⟩ := S8.out.lcs.cell hkm
              rw [h1] at d1
              obtain ⟨z, hz⟩ : ∃ z, z = lf l (o ++ [x]) k := ⟨_, rfl⟩
              rw [← hz] at d1 h2
              have hzl : z ≤ 2000 := by have := lf_le l (o ++ [x]) k; omega
              have d2 : (wr.setCell ⟨L, k, none⟩ (.int .i64 (z : Nat))).cell? ⟨L, k, none⟩ = some (.int .i64 (z : Nat)) := by
                have := ((S8.out.lcs.set k z).cell hkm).1
                rwa [upd_at] at this
              have hnew := hasT_new HX1.out htl
              rw [← hk] at hnew
              have hgL : wr.grownBy (wr.setCell ⟨L, k, none⟩ (.int .i64 (z : Nat))) (some L) := grown_setCell (World.grownBy.refl wr (some L)) (p := ⟨L, k, none⟩) rfl _
              have hvL : (Value.slice A7 (q + 1) c7).ownBlock = none ∨ (Value.slice A7 (q + 1) c7).ownBlock ≠ some L := by
                cases hv : (Value.slice A7 (q + 1) c7).ownBlock with
                | none => exact .inl rfl
                | some b => exact .inr fun e => by injection e with e; have := (O8.out.lt b hv).1; omega
              have O9 := Lib.hid (O8.out.kept hgL hvL); have P9 := Lib.hid (P8.out.kept hgL hvL)
              have S9 : Hid (LSt l L g m (.slice A m cap) (.slice A7 (q + 1) c7) w2 (lcn l o x (t + 1)) (HasT l o x t) nn' a8 (wr.setCell ⟨L, k, none⟩ (.int .i64 (z : Nat)))) := Lib.hid ((S8.out.count HLE.out k z).congr (fun k' _ => by
                by_cases e : k' = k
                · rw [e, upd_at, h2]
                · rw [upd_ne _ _ e, lcn_ne htl (by rw [← hk]; exact e)]) fun _ => Iff.rfl)
              have HSTP : Hid (∀ y, HasT l o x (t + 1) y ↔ HasT l o x t y ∨ (y = k ∧ z = 0)) := Lib.hid fun y => by
                rw [hasT_step htl, ← hk]
                constructor
                · rintro (h | ⟨h3, h4⟩)
                  · exact .inl h
                  · exact .inr ⟨h3, by rw [hz, ← h3]; exact h4⟩
                · rintro (h | ⟨h3, h4⟩)
                  · exact .inl h
                  · exact .inr ⟨h3, by rw [h3, ← hz]; exact h4⟩
              have HTL : Hid (∀ y, HasT l o x t y → y < m) := Lib.hid fun y h => by rw [HM.out]; exact hasT_lt h
              have HNEW := Lib.hid hnew
              clear h1 h2 hk hz hnew hgL hvL
              have e3 : IntKind.i64.wrap (((z + 1 : Nat) : Int) - 1) = (z : Int) := by rw [wi64 _ (by omega) (by omega)]; omega
              by_cases hz0 : z = 0
              · subst hz0
                have HPU := Lib.hid (S9.out.hpush HLE.out HEV.out HB0.out HM.out (by omega) HTL.out k hkm HNEW.out)
                unfold rif at HPU
                rw [show ((0 : Nat) : Int) = 0 from rfl] at HPU d2
                go_wp2_with fail
                with_reducible refine HPU.out.mono ?_
                rintro e w10 ⟨rfl, hq10, a10, h10⟩
                have S10 := Lib.hid h10
                have O10 := Lib.hid (hq10.own O9.out); have P10 := Lib.hid (hq10.spare P9.out)
                clear hq10 h10
                go_wp2_with fail
                refine ⟨⟨t + 1, nn' + 1, a10, by omega, by go_num, O10.out, P10.out, S10.out.congr (fun _ _ => rfl) fun y => ?_⟩, by simp [intOf]; omega⟩
                rw [HSTP.out]
                simp
              · have hz2 : ((z : Nat) : Int) ≠ 0 := by omega
                have d0 : (((z : Nat) : Int) == 0) = false := by rw [beq_eq_false_iff_ne]; exact hz2
                have HZ0 := Lib.hid hz0
                clear hz0 hz2
                go_wp2_with fail
                refine ⟨⟨t + 1, nn', a8, by omega, by go_num, O9.out, P9.out, S9.out.congr (fun _ _ => rfl) fun y => ?_⟩, by simp [intOf]; omega⟩
                rw [HSTP.out]
                simp [HZ0.out]
            · obtain rfl : t = (futL l x).length := by omega
              go_wp2_with fail
              have hgr2 : Gr l (o ++ [x]) := .snoc HGR.out HX1.out (fun k hk => HX2.out k hk)
              have hlen2 : (o ++ [x]).length = q + 1 := by rw [List.length_append, HOL.out]; rfl
              have hle2 : q + 1 ≤ m := by
                have := hgr2.dn.length_le
                rw [hlen2] at this
                rw [HM.out]; exact this
              refine ⟨⟨o ++ [x], nn', a8, hgr2, by rw [hlen2]; exact hle2, by rw [hlen2, icl_snoc]; exact O8.out, by rw [hlen2]; exact P8.out, S8.out.congr (fun k hk => lcn_end HX1.out.2.1 (by rw [← HM.out]; exact hk)) (hasT_end HGR.out.dn HX1.out)⟩, ?_⟩
              simp only [slen]
              omega
end Go.Proofs.Ytaalinhkikmfaaa
