/- what a crash keeps: plain; begins. -/
import Derived.Test.YtegekaocbalndaaGreatDoorNq
set_option linter.unusedSimpArgs false
set_option linter.unusedVariables false
namespace Go.Proofs.YtegekaocbalndaaGreatDoor
open Go.RowKit

theorem crash_file {fs : Nl Fl} (hr : Rising fs) (t : List Int) {j : Nat} {k : Nm} {f : Fl} (hj : fs[j]? = some (k, f)) :
    nget (crashL fs t) k = (if goneF (tornF f (dropL (fs.take j) t)) = true then none else some ⟨(tornF f (dropL (fs.take j) t)).b, (tornF f (dropL (fs.take j) t)).safe, true⟩) := by
  have hlt : j < fs.length := (List.getElem?_eq_some_iff.1 hj).1
  have he : fs[j] = (k, f) := (List.getElem?_eq_some_iff.1 hj).2
  have hsp : fs = fs.take j ++ (k, f) :: fs.drop (j + 1) := by
    rw [← he, ← List.drop_eq_getElem_cons hlt, List.take_append_drop]
  have hr1 : Rising (fs.take j ++ (k, f) :: fs.drop (j + 1)) := hsp ▸ hr
  have hc : crashL fs t = crashL (fs.take j) t ++ (if goneF (tornF f (dropL (fs.take j) t)) = true then crashL (fs.drop (j + 1)) (dropT f (dropL (fs.take j) t)) else (k, ⟨(tornF f (dropL (fs.take j) t)).b, (tornF f (dropL (fs.take j) t)).safe, true⟩) :: crashL (fs.drop (j + 1)) (dropT f (dropL (fs.take j) t))) := by
    conv => lhs; rw [hsp]
    rw [crashL_app]
    rfl
  have hr2 : Rising (crashL fs t) := hr.of_names (crashL_names _ _)
  cases hg : goneF (tornF f (dropL (fs.take j) t)) with
  | false =>
    rw [hg, if_neg (by decide)] at hc
    rw [if_neg (by decide), hc]
    rw [hc] at hr2
    exact nget_mid hr2
  | true =>
    rw [hg, if_pos rfl] at hc
    rw [if_pos rfl, hc]
    obtain ⟨h1, h2, h3⟩ := List.pairwise_append.1 hr1.nodup
    obtain ⟨h4, h5⟩ := List.pairwise_cons.1 h2
    have hn : (crashL (fs.take j) t ++ crashL (fs.drop (j + 1)) (dropT f (dropL (fs.take j) t))).find? (fun p => p.1 == k) = none := by
      rw [List.find?_eq_none]
      intro q hq
      rcases List.mem_append.1 hq with hq | hq
      · have h6 : q.1 ∈ names (fs.take j) := (crashL_names _ _).subset (List.mem_map.2 ⟨q, hq, rfl⟩)
        obtain ⟨r, hr3, he3⟩ := List.mem_map.1 h6
        have h7 := h3 r hr3 (k, f) (by simp)
        rw [← he3]
        simpa using h7
      · have h6 : q.1 ∈ names (fs.drop (j + 1)) := (crashL_names _ _).subset (List.mem_map.2 ⟨q, hq, rfl⟩)
        obtain ⟨r, hr3, he3⟩ := List.mem_map.1 h6
        have h7 := h4 r hr3
        rw [← he3]
        simpa using fun e => h7 e.symm
    unfold nget
    rw [hn]; rfl
theorem keeps_plain {d : Dk} (h : d.Ok) (t : List Int) {j : Nat} {k : Nm} {f : Fl} (hj : d.fs[j]? = some (k, f)) :
    d.read k = (f.b, 0) ∧ d.loose k = f.b.length - f.safe ∧ (d.crash t).loose k = 0 ∧ f.safe ≤ f.b.length ∧ f.b.length ≤ 67108864 ∧
    (((d.crash t).read k = ([], 6) ∧ f.safe = 0 ∧ (crashL (d.fs.take (j + 1)) t).length = (crashL (d.fs.take j) t).length) ∨
     (∃ x, f.safe ≤ x ∧ x ≤ f.b.length ∧ (d.crash t).read k = (f.b.take x, 0) ∧ (crashL (d.fs.take (j + 1)) t).length = (crashL (d.fs.take j) t).length + 1)) := by
  have hlt : j < d.fs.length := (List.getElem?_eq_some_iff.1 hj).1
  have he : d.fs[j] = (k, f) := (List.getElem?_eq_some_iff.1 hj).2
  have hsp : d.fs = d.fs.take j ++ (k, f) :: d.fs.drop (j + 1) := by
    rw [← he, ← List.drop_eq_getElem_cons hlt, List.take_append_drop]
  have hg0 : nget d.fs k = some f := by
    have hr1 : Rising (d.fs.take j ++ (k, f) :: d.fs.drop (j + 1)) := hsp ▸ h.rising
    have := nget_mid hr1
    rw [← hsp] at this
    exact this
  have hmem : (k, f) ∈ d.fs := List.mem_of_getElem? hj
  have hsf : f.safe ≤ f.b.length := h.safe _ hmem
  have hln : f.b.length ≤ 67108864 := by
    have h1 := total_mem flen hmem
    have h2 := h.used
    have h3 := h.size
    unfold Dk.used at h2
    unfold flen at h1 h2
    simp only [] at h1
    omega
  have hfile : d.file k = f := by unfold Dk.file; rw [hg0]; rfl
  have hhas : d.has k = true := by unfold Dk.has; rw [hg0]; rfl
  have hc := crash_file h.rising t hj
  have htk : d.fs.take (j + 1) = d.fs.take j ++ [(k, f)] := by rw [List.take_add_one, hj]; rfl
  have hsn := (crash_snoc (a := d.fs.take j) (k := k) (f := f) (t := t) rfl).1
  rw [← htk] at hsn
  generalize dropL (d.fs.take j) t = u at *
  have hcl : (d.crash t).fs = crashL d.fs t := rfl
  refine ⟨by unfold Dk.read; rw [if_neg (by rw [hhas]; decide), hfile], by unfold Dk.loose; rw [hfile], ?_, hsf, hln, ?_⟩
  · unfold Dk.loose Dk.file
    rw [hcl, hc]
    split
    · rfl
    · show (tornF f u).b.length - (tornF f u).safe = 0
      unfold tornF
      split
      · simp only [List.length_take]; omega
      · omega
  · cases hg : goneF (tornF f u) with
    | true =>
      rw [hg, if_pos rfl] at hc hsn
      refine .inl ⟨?_, ?_, by rw [hsn]; simp⟩
      · unfold Dk.read Dk.has
        rw [hcl, hc]; rfl
      · unfold goneF at hg
        rw [Bool.and_eq_true, decide_eq_true_eq] at hg
        have h2 := hg.2
        have h3 := tornF_len f u hsf
        unfold tornF at h2 h3
        split at h2
        · rename_i h4
          rw [if_pos h4] at h3
          simp only [List.length_take] at h2 h3
          omega
        · omega
    | false =>
      rw [hg, if_neg (by decide)] at hc hsn
      have hrd : (d.crash t).read k = ((tornF f u).b, 0) := by
        unfold Dk.read Dk.has Dk.file
        rw [hcl, hc]; rfl
      refine .inr ?_
      rw [hrd]
      have hle : (crashL (d.fs.take (j + 1)) t).length = (crashL (d.fs.take j) t).length + 1 := by rw [hsn]; simp
      unfold tornF
      split
      · have := keepOf_le u (f.b.length - f.safe)
        exact ⟨_, Nat.le_add_right _ _, by omega, rfl, hle⟩
      · exact ⟨f.b.length, hsf, Nat.le_refl _, by rw [List.take_length], hle⟩
end Go.Proofs.YtegekaocbalndaaGreatDoor
