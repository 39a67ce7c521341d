/- norm.Schedule. -/
import Derived.Test.YtaalinhkikmfaaaEc
import Derived.Test.YtaalinhkikmfaaaGm
import Derived.Test.YtaalinhkikmfaaaIz
set_option linter.unusedSimpArgs false
set_option linter.unusedVariables false
namespace Go.Proofs.Ytaalinhkikmfaaa
open Go.RowKit

/-- a place that may not be: behind the end, or met before. -/
def badS (m : Nat) (zs : List Int) (k : Nat) : Bool := decide (zs.getD k 0 < 0) || decide ((m : Int) ≤ zs.getD k 0) || decide (zs.getD k 0 ∈ zs.take k)
def schedOk (m : Nat) (zs : List Int) : Bool := decide (zs.length = m) && (List.range zs.length).all fun k => !badS m zs k
def thrs (l : List Ev) (zs : List Int) : List Int := zs.map fun z => (ev l z.toNat).t
def zcl (zs : List Int) : List Value := zs.map (.int .i64 ·)
theorem sched_no {m : Nat} {zs : List Int} {k : Nat} (hk : k < zs.length) (h : badS m zs k = true) : schedOk m zs = false := by
  unfold schedOk
  rw [Bool.and_eq_false_iff]
  right
  rw [List.all_eq_false]
  exact ⟨k, List.mem_range.2 hk, by simp [h]⟩
theorem sched_yes {m : Nat} {zs : List Int} (h : ∀ j, j < zs.length → badS m zs j = false) : schedOk m zs = decide (zs.length = m) := by
  unfold schedOk
  rw [List.all_eq_true.2 (fun j hj => by rw [h j (List.mem_range.1 hj)]; rfl), Bool.and_true]
theorem take_mem_succ {zs : List Int} {k : Nat} (hk : k < zs.length) (z : Int) : z ∈ zs.take (k + 1) ↔ z ∈ zs.take k ∨ z = zs.getD k 0 := by
  rw [List.take_add_one, List.getElem?_eq_getElem hk]
  simp only [List.mem_append, Option.toList, List.mem_singleton, List.getD_eq_getElem?_getD, List.getElem?_eq_getElem hk, Option.getD_some]
theorem thrs_succ (l : List Ev) {zs : List Int} {k : Nat} (hk : k < zs.length) : zcl (thrs l (zs.take (k + 1))) = zcl (thrs l (zs.take k)) ++ [.int .i64 (ev l (zs.getD k 0).toNat).t] := by
  rw [List.take_add_one, List.getElem?_eq_getElem hk]
  simp only [zcl, thrs, Option.toList, List.map_append, List.map_cons, List.map_nil, List.getD_eq_getElem?_getD, List.getElem?_eq_getElem hk, Option.getD_some]
theorem MapS.not_rowI {w : World} {b : Nat} {S : Nat → Bool} (h : MapS w b S) {B n : Nat} {v : Value} {xs : List Value} (ho : w.ownsRow B 3 1 v n xs) : v.ownBlock = none ∨ v.ownBlock ≠ some b := by
  cases hv : v.ownBlock with
  | none => exact .inl rfl
  | some g =>
    refine .inr fun e => ?_
    injection e with e
    subst e
    obtain ⟨D, ⟨es, c, h1, _⟩, _⟩ := h
    rcases ho.2 with ⟨rfl, _⟩ | ⟨g', cap, cur, rfl, _, hg, _⟩
    · simp [Value.ownBlock] at hv
    · obtain rfl : g' = g := by simpa [Value.ownBlock] using hv
      rw [h1] at hg
      cases hg
def SchedP (l : List Ev) (m : Nat) (zs : List Int) (w : World) (e : Ending) (w' : World) : Prop := Below w.heap.size w w' ∧
  ((schedOk m zs = false ∧ e = .returned (.tuple #[.slice none 0 0, .int .i64 2])) ∨
   (schedOk m zs = true ∧ ∃ v, e = .returned (.tuple #[v, .int .i64 0]) ∧ w'.ownsRow w.heap.size 3 1 v zs.length (zcl (thrs l zs)) ∧ Spare (.int .i64 0) zs.length v w'))
set_option maxRecDepth 100000 in
set_option maxHeartbeats 8000000 in
theorem schedule_any (l : List Ev) (m : Nat) (hm : m = l.length) (hl : m ≤ 5000) (A : Option Addr) (cap : Nat) (zs : List Int) (q : Nat) (hq : q = zs.length) (hql : q ≤ 100000) (Ao : Option Addr) (co B : Nat) (w : World) (hA : Evs w B A l) (hO : Zs w B Ao zs) (hB : B ≤ w.heap.size) :
    Calls Try.prog 16 #[.slice A m cap, .slice Ao q co] w (SchedP l m zs w) := by
  have HA := Lib.hid hA; have HO := Lib.hid hO; have HM := Lib.hid hm; have HQ := Lib.hid hq
  clear hA hO hm hq
  have hmm := @run_makeMap Try.prog
  go_enter Try.func16, Try.ntmps16
  go_wp2_with fail
  have HS0 := Lib.hid (MapS.made w)
  have HB0 := Lib.hid (below_alloc w (.map #[] 0))
  have HW0 : Hid (∃ b w1, b = w.heap.size ∧ w1 = w.alloc (.map #[] 0)) := Lib.hid ⟨_, _, rfl, rfl⟩
  obtain ⟨b, w1, hb, hw1⟩ := HW0.out
  rw [← hb, ← hw1] at HS0
  rw [← hw1] at HB0
  rw [← hb, ← hw1]
  have HBB : Hid (w.heap.size ≤ b) := Lib.hid (by omega)
  clear hb hw1 hmm
  go_loopw [7, 13] (fun ov iv wr => ∃ k : Nat, k ≤ q ∧ iv = .int .i64 (k : Nat) ∧ (∀ j, j < k → badS m zs j = false) ∧ MapS wr b (fun x => decide ((x : Int) ∈ zs.take k)) ∧ wr.ownsRow w.heap.size 3 1 ov k (zcl (thrs l (zs.take k))) ∧ Spare (.int .i64 0) k ov wr ∧ Below w.heap.size w wr) (fun _ iv _ => q - (intOf iv).toNat)
  case atStart => exact ⟨0, by omega, by go_num, fun j hj => by omega, HS0.out.congr (fun k => by simp), World.ownsRow_nil _ _ _ _, Spare.nil _ _ _, HB0.out⟩
  case round =>
    obtain ⟨k, hk, rfl, hgood, hms, ho, hsp, hb⟩ := hrel
    have HG := Lib.hid hgood; have HMS := Lib.hid hms; have HR := Lib.hid ho; have HSP := Lib.hid hsp; have HBL := Lib.hid hb
    obtain ⟨A5, c5, rfl, _⟩ := own_rd HR.out
    by_cases hlt : k < q
    · have hkz : k < zs.length := by rw [← HQ.out]; exact hlt
      obtain ⟨bo, fo, rfl, hbo, e0⟩ := HO.out k hkz
      have c0 := (hb.cell (p := ⟨bo, fo + k, none⟩) (Nat.lt_of_lt_of_le hbo hB)).trans e0
      obtain ⟨z, hz⟩ : ∃ z, z = zs.getD k 0 := ⟨_, rfl⟩
      rw [← hz] at c0
      have HZ := Lib.hid hz
      have HNO : Hid (badS m zs k = true → SchedP l m zs w (.returned (.tuple #[.slice none 0 0, .int .i64 2])) wr) := Lib.hid fun h => ⟨HBL.out, .inl ⟨sched_no hkz h, rfl⟩⟩
      clear e0 hz hgood hms ho hsp hb
      by_cases h1 : z < 0
      · have HX := Lib.hid (HNO.out (by unfold badS; rw [← HZ.out]; simp [h1]))
        go_wp2_with fail
        go_ret2
        exact HX.out
      · by_cases h2 : (m : Int) ≤ z
        · have HX := Lib.hid (HNO.out (by unfold badS; rw [← HZ.out]; simp [h2]))
          go_wp2_with fail
          go_ret2
          exact HX.out
        · obtain ⟨x, rfl⟩ : ∃ x : Nat, z = x := ⟨z.toNat, by omega⟩
          have hxm : x < m := by omega
          have hlk := HMS.out.look x (by omega)
          by_cases h3 : (x : Int) ∈ zs.take k
          · have HX := Lib.hid (HNO.out (by unfold badS; rw [← HZ.out]; simp [h3]))
            simp only [h3, decide_true] at hlk
            clear h3
            go_wp2_with fail
            go_ret2
            exact HX.out
          · have HGK : Hid (badS m zs k = false) := Lib.hid (by unfold badS; rw [← HZ.out, decide_eq_false h1, decide_eq_false h2, decide_eq_false h3]; rfl)
            simp only [h3, decide_false] at hlk
            obtain ⟨be, oe, rfl, hbe, e1, _, _⟩ := HA.out x (by rw [← HM.out]; exact hxm)
            have HTH : Hid (zcl (thrs l (zs.take (k + 1))) = zcl (thrs l (zs.take k)) ++ [.int .i64 (ev l x).t]) := Lib.hid (by rw [thrs_succ l hkz, ← HZ.out]; rfl)
            have HTM : Hid (∀ y : Nat, (decide ((y : Int) ∈ zs.take k) || decide (y = x)) = decide ((y : Int) ∈ zs.take (k + 1))) := Lib.hid fun y => by
              rw [← Bool.decide_or]
              refine decide_eq_decide.2 ?_
              rw [take_mem_succ hkz, ← HZ.out]
              constructor
              · rintro (h | h)
                · exact .inl h
                · exact .inr (by rw [h])
              · rintro (h | h)
                · exact .inl h
                · exact .inr (by omega)
            have E1 := Lib.hid e1; have HBE := Lib.hid (Nat.lt_of_lt_of_le hbe hB)
            generalize (ev l x).t = tt at *
            clear h3 e1 hbe
            go_wp2_with (first
              | (at_mapUpdate; refine wpList_put HMS.out rfl _ _ _ rfl rfl x (by omega) rfl rfl ?_; intro w6 h2 h3; have HS6 := Lib.hid h2; have HB6 := Lib.hid (HBL.out.grown h3 HBL.out.size (fun j e => by cases e; exact HBB.out)); have HR6 := Lib.hid (HR.out.kept h3 (HMS.out.not_rowI HR.out)); have HP6 := Lib.hid (HSP.out.kept h3 (HMS.out.not_rowI HR.out)); have c9 := (HB6.out.cell (p := ⟨be, oe + x * 3, none⟩) HBE.out).trans E1.out; clear h2 h3)
              | (at_builtin; refine wpList_append_oneX EI rfl (.tmp 32) (.tmp 38) rfl w.heap.size (.int .i64 tt) rfl (.slice A5 k c5) k _ rfl HR6.out HP6.out rfl (by omega) (by omega) HB6.out.size ?_; intro v7 w7 h71 h72 h73 h74; obtain ⟨A7, c7, e7, _⟩ := own_rd h71; subst e7; have O7 := Lib.hid h71; have P7 := Lib.hid h74; have B7 := Lib.hid (HB6.out.grown h72 HB6.out.size (fun j e => (HR6.out.lt j e).1)); have S7 := Lib.hid (HS6.out.kept h72 (fun e => (HS6.out.not_rowI HR6.out).elim (fun h => by rw [h] at e; cases e) (fun h => h e.symm))); clear h71 h72 h73 h74))
            refine ⟨⟨k + 1, by omega, by go_num, fun j hj => ?_, S7.out.congr HTM.out, by rw [HTH.out]; exact O7.out, P7.out, B7.out⟩, by simp [intOf]; omega⟩
            by_cases e : j = k
            · rw [e]; exact HGK.out
            · exact HG.out j (by omega)
    · obtain rfl : k = q := by omega
      have HOK : Hid (schedOk m zs = decide (k = m)) := Lib.hid (by rw [sched_yes (fun j hj => HG.out j (by rw [HQ.out]; exact hj)), ← HQ.out])
      have HR2 : Hid (wr.ownsRow w.heap.size 3 1 (.slice A5 k c5) k (zcl (thrs l zs))) := Lib.hid (by have := HR.out; rw [HQ.out, List.take_length, ← HQ.out] at this; exact this)
      clear hgood hms ho hsp hb
      by_cases hkm : k = m
      · subst hkm
        go_wp2_with fail
        go_ret2
        refine ⟨HBL.out, .inr ⟨by rw [HOK.out]; simp, _, rfl, ?_, ?_⟩⟩
        · rw [← HQ.out]; exact HR2.out
        · rw [← HQ.out]; exact HSP.out
      · have d0 : ((k : Int) != (m : Int)) = true := by rw [bne_iff_ne]; omega
        have HNK : Hid (schedOk m zs = false) := Lib.hid (by rw [HOK.out]; exact decide_eq_false hkm)
        clear hkm
        go_wp2_with fail
        go_ret2
        exact ⟨HBL.out, .inl ⟨HNK.out, rfl⟩⟩
end Go.Proofs.Ytaalinhkikmfaaa
