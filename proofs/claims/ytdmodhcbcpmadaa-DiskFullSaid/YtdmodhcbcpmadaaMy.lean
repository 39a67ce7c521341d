/- disk.Names. -/
import Derived.Test.YtdmodhcbcpmadaaMx
import Derived.Test.YtdmodhcbcpmadaaMg7
import Derived.Test.YtdmodhcbcpmadaaMg6
set_option linter.unusedSimpArgs false
set_option linter.unusedVariables false
namespace Go.Proofs.Ytdmodhcbcpmadaa
open Go.RowKit

theorem before_le : ∀ (a b : List UInt8), bytesBefore a b = true → a ≤ b
  | [], [], h => by cases h
  | [], _ :: _, _ => List.nil_le _
  | _ :: _, [], h => by cases h
  | a :: r, b :: s, h => by
    unfold bytesBefore at h
    rw [List.cons_le_cons_iff]
    rw [Bool.or_eq_true, Bool.and_eq_true] at h
    rcases h with h | ⟨h1, h2⟩
    · exact .inl (by simpa using h)
    · exact .inr ⟨by simpa using h1, before_le r s h2⟩
theorem names_sorted {α : Type} {l : Nl α} (h : Rising l) {ss : List Nm} (hp : ss.Perm (names l)) : ss.mergeSort (fun x y => decide (x ≤ y)) = names l := by
  have tr : ∀ a b c : List UInt8, decide (a ≤ b) = true → decide (b ≤ c) = true → decide (a ≤ c) = true := fun a b c h1 h2 => by simp only [decide_eq_true_eq] at *; exact List.le_trans h1 h2
  have tt : ∀ a b : List UInt8, (decide (a ≤ b) || decide (b ≤ a)) = true := fun a b => by simp only [Bool.or_eq_true, decide_eq_true_eq]; exact List.le_total a b
  have hs : (names l).Pairwise fun a b => decide (a ≤ b) = true := by
    unfold names
    rw [List.pairwise_map]
    exact h.imp fun {p q} h => by rw [decide_eq_true_eq]; exact before_le _ _ h
  refine List.Perm.eq_of_pairwise (le := fun a b => decide (a ≤ b) = true) (fun a b _ _ h1 h2 => ?_) (List.pairwise_mergeSort tr tt ss) hs ((List.mergeSort_perm ss _).trans hp)
  simp only [decide_eq_true_eq] at h1 h2
  exact List.le_antisymm h1 h2
theorem Alike.names_eq {α β : Type} {R : α → β → Prop} : ∀ {l : Nl α} {l' : Nl β}, Alike R l l' → names l = names l'
  | [], [], _ => rfl
  | p :: l, q :: l', h => by
    unfold names
    rw [List.map_cons, List.map_cons, h.1]
    have := h.2.2.names_eq
    unfold names at this
    rw [this]
  | [], _ :: _, h => h.elim
  | _ :: _, [], h => h.elim
set_option maxRecDepth 100000 in
set_option maxHeartbeats 2000000 in
theorem names_at {w : World} {p m : Nat} {d : Dk} (h : DiskAt w p m d) : Calls Try.prog 20 #[.pointer (some ⟨p, 0, none⟩)] w fun e w' => ∃ v, e = .returned v ∧ w'.ownsRow w.heap.size 9 1 v d.fs.length ((names d.fs).map encStr) ∧ Below w.heap.size w w' := by
  obtain ⟨vs, hm, ha⟩ := h.files
  have hlen := ha.length
  have hnm := ha.names_eq
  have HN := Lib.hid (none_at h)
  have HK := Lib.hid (callsIn_wide.1 (keys_files (some m) w))
  have hct := h.ok.count
  have hks : strKeys (.map (kd vs)) = names vs := names_kd vs
  have hsz : Maps.size (.map (kd vs)) = d.fs.length := by rw [kd_size, hlen]
  have HS := Lib.hid (callsIn_wide.1 (sorted_files m vs.length (.map (kd vs)) HR w hm (by rw [hsz]; have : maxLen = 9223372036854775807 := rfl; omega) (by rw [hsz]; omega)))
  have HRS := Lib.hid h.ok.rising
  have HKS := Lib.hid (hks.trans hnm)
  have HLN : Hid ((names d.fs).length = d.fs.length) := Lib.hid (by unfold names; simp)
  have c1 := cell_blk h.own 1
  simp only [List.getElem?_toArray, List.getElem?_cons_succ, List.getElem?_cons_zero] at c1
  clear h hm ha hlen hnm hks hsz
  go_enter Try.func20, Try.ntmps20
  go_wp2_with fail
  refine HN.out.mono ?_
  rintro e w1 ⟨rfl, rfl⟩
  go_wp2_with fail
  refine HK.out.mono ?_
  rintro e w2 ⟨rfl, rfl⟩
  go_wp2_with fail
  refine HS.out.mono ?_
  rintro e w3 ⟨v, ss, rfl, hp, ho, _, hb⟩
  rw [HKS.out] at hp
  rw [names_sorted HRS.out hp] at ho
  have hl : ss.length = d.fs.length := by rw [← HLN.out]; exact hp.length_eq
  rw [hl] at ho
  have HO := Lib.hid ho
  have HB := Lib.hid ((below_alloc w1 (.cells #[.map (some m)] UM)).trans (hb.mono (below_alloc w1 _).size))
  have hsz2 := (below_alloc w1 (.cells #[.map (some m)] UM)).size
  clear hp ho hb hl
  go_wp2_with fail
  go_ret
  exact ⟨v, rfl, own_base HO.out hsz2, HB.out⟩
end Go.Proofs.Ytdmodhcbcpmadaa
