/- names of a store's files: strconv.Itoa of small numbers, snapshot, draft, logOf. -/
import Derived.Test.YtdmodhcbcpmadaaDoorMg5
set_option linter.unusedSimpArgs false
set_option linter.unusedVariables false
namespace Go.Proofs.YtdmodhcbcpmadaaDoor
open Go.RowKit

def bSnap : List UInt8 := [46, 115, 110, 97, 112]
def bTmp : List UInt8 := [46, 116, 109, 112]
def bLog : List UInt8 := [46, 108, 111, 103, 46]
def decS (g : Nat) : List UInt8 := if g < 10 then [UInt8.ofNat (48 + g)] else [UInt8.ofNat (48 + g / 10), UInt8.ofNat (48 + g % 10)]
def snapN (b : Nm) : Nm := b ++ bSnap
def tmpN (b : Nm) : Nm := b ++ bTmp
def logN (b : Nm) (g : Nat) : Nm := b ++ bLog ++ decS g
set_option maxRecDepth 100000 in
set_option maxHeartbeats 2000000 in
theorem dec_all (f : Nat → ByteArray) (P : Nat → Prop) (g : Nat) (hg : g < 100) (h : P g) (H : ∀ g, g < 100 → P g → f g = str (decS g)) : f g = str (decS g) := H g hg h
theorem str_ln (l : List UInt8) : (str l).size = l.length := by simp [str, ByteArray.size]
set_option maxRecDepth 100000 in
set_option maxHeartbeats 2000000 in
theorem small_at (g : Nat) (hg : g < 100) (w : World) : Calls Tryd.prog 79 #[.int .i64 g] w fun e w' => e = .returned (.string (str (decS g))) ∧ w' = w := by
  have key : ∀ (v : Value) (s : ByteArray), v = .string s → s = str (decS g) → Ending.returned v = .returned (.string (str (decS g))) := by
    rintro v s rfl rfl
    rfl
  by_cases h : g < 10
  · go_enter Tryd.func79, Tryd.ntmps79
    go_wp2_with fail
    go_ret
    refine ⟨key _ _ rfl ?_, by first | rfl | trivial⟩
    refine dec_all (fun x => ByteArray.extract _ x (x + 1)) (fun g => g < 10) g hg h ?_
    decide +kernel
  · go_enter Tryd.func79, Tryd.ntmps79
    go_wp2_with fail
    go_ret
    refine ⟨key _ _ rfl ?_, by first | rfl | trivial⟩
    refine dec_all (fun x => ByteArray.extract _ (x * 2) (x * 2 + 2)) (fun g => ¬ g < 10) g hg h ?_
    decide +kernel
set_option maxRecDepth 100000 in
set_option maxHeartbeats 2000000 in
theorem fmt_at (g : Nat) (hg : g < 100) (w : World) : Calls Tryd.prog 78 #[.int .i64 g, .int .i64 10] w fun e w' => e = .returned (.string (str (decS g))) ∧ w' = w := by
  have HS := Lib.hid (small_at g hg w)
  go_enter Tryd.func78, Tryd.ntmps78
  go_wp2_with fail
  refine HS.out.mono ?_
  rintro e w1 ⟨rfl, rfl⟩
  go_wp2_with fail
  go_ret
  exact ⟨rfl, rfl⟩
set_option maxRecDepth 100000 in
set_option maxHeartbeats 2000000 in
theorem itoa1_at (g : Nat) (hg : g < 100) (w : World) : Calls Tryd.prog 76 #[.int .i64 g] w fun e w' => e = .returned (.string (str (decS g))) ∧ w' = w := by
  have HS := Lib.hid (fmt_at g hg w)
  go_enter Tryd.func76, Tryd.ntmps76
  go_wp2_with fail
  refine HS.out.mono ?_
  rintro e w1 ⟨rfl, rfl⟩
  go_wp2_with fail
  go_ret
  exact ⟨rfl, rfl⟩
set_option maxRecDepth 100000 in
set_option maxHeartbeats 2000000 in
theorem itoa_at (g : Nat) (hg : g < 100) (w : World) : Calls Tryd.prog 68 #[.int .i64 g] w fun e w' => e = .returned (.string (str (decS g))) ∧ w' = w := by
  have HS := Lib.hid (itoa1_at g hg w)
  go_enter Tryd.func68, Tryd.ntmps68
  go_wp2_with fail
  refine HS.out.mono ?_
  rintro e w1 ⟨rfl, rfl⟩
  go_wp2_with fail
  go_ret
  exact ⟨rfl, rfl⟩
set_option maxRecDepth 100000 in
set_option maxHeartbeats 2000000 in
theorem dec_at (g : Nat) (hg : g < 100) (w : World) : Calls Tryd.prog 46 #[.int .i64 g] w fun e w' => e = .returned (.string (str (decS g))) ∧ w' = w := by
  have HS := Lib.hid (itoa_at g hg w)
  go_enter Tryd.func46, Tryd.ntmps46
  go_wp2_with fail
  refine HS.out.mono ?_
  rintro e w1 ⟨rfl, rfl⟩
  go_wp2_with fail
  go_ret
  exact ⟨rfl, rfl⟩
theorem str_app (a b : List UInt8) : str a ++ str b = str (a ++ b) := by
  unfold str
  apply ByteArray.ext
  simp [ByteArray.append]
set_option maxRecDepth 100000 in
set_option maxHeartbeats 2000000 in
theorem snapshot_at (q : Nat) (b : Nm) (hb : b.length ≤ 1000) (w : World) (h : w.cell? ⟨q, 1, none⟩ = some (.string (str b))) : Calls Tryd.prog 16 #[.pointer (some ⟨q, 0, none⟩)] w fun e w' => e = .returned (.string (str (snapN b))) ∧ w' = w := by
  have hs : (str b).size ≤ 1000 := by rw [str_ln]; exact hb
  go_enter Tryd.func16, Tryd.ntmps16
  go_wp2_with fail
  go_ret
  exact ⟨congrArg (fun s => Ending.returned (.string s)) (str_app b bSnap), rfl⟩
set_option maxRecDepth 100000 in
set_option maxHeartbeats 2000000 in
theorem draft_at (q : Nat) (b : Nm) (hb : b.length ≤ 1000) (w : World) (h : w.cell? ⟨q, 1, none⟩ = some (.string (str b))) : Calls Tryd.prog 18 #[.pointer (some ⟨q, 0, none⟩)] w fun e w' => e = .returned (.string (str (tmpN b))) ∧ w' = w := by
  have hs : (str b).size ≤ 1000 := by rw [str_ln]; exact hb
  go_enter Tryd.func18, Tryd.ntmps18
  go_wp2_with fail
  go_ret
  exact ⟨congrArg (fun s => Ending.returned (.string s)) (str_app b bTmp), rfl⟩
set_option maxRecDepth 100000 in
set_option maxHeartbeats 2000000 in
theorem logof_at (q : Nat) (b : Nm) (hb : b.length ≤ 1000) (g : Nat) (hg : g < 100) (w : World) (h : ∀ W, Below w.heap.size w W → W.cell? ⟨q, 1, none⟩ = some (.string (str b))) : Calls Tryd.prog 19 #[.pointer (some ⟨q, 0, none⟩), .int .i64 g] w fun e w' => e = .returned (.string (str (logN b g))) ∧ Below w.heap.size w w' := by
  have HC := Lib.hid h
  have hs : (str b).size ≤ 1000 := by rw [str_ln]; exact hb
  have hs2 : (str (decS g)).size ≤ 2 := by rw [str_ln]; unfold decS; split <;> simp
  have hs3 : ¬ 9223372036854775807 < (str b).size + 5 := by omega
  have hs4 : ¬ 9223372036854775807 < (str b).size + 5 + (str (decS g)).size := by omega
  have HD : Hid (∀ W, Calls Tryd.prog 46 #[.int .i64 g] W fun e w' => e = .returned (.string (str (decS g))) ∧ Below W.heap.size W w') := Lib.hid fun W => (dec_at g hg W).mono fun e w' h => ⟨h.1, h.2 ▸ Below.refl _ _⟩
  clear h
  go_enter Tryd.func19, Tryd.ntmps19
  go_upto_region 1 with fail
  apply wp_region_relS 9 [(Sum.inl _ : TT), (Sum.inl _ : TT), (Sum.inl _ : TT), (Sum.inl _ : TT), (Sum.inl _ : TT), (Sum.inl _ : TT), (Sum.inl _ : TT), (Sum.inl _ : TT), (Sum.inl _ : TT)] (by kernel_rfl) (by kernel_rfl) rfl
  simp only [List.take_succ_cons, List.take_zero, List.drop_succ_cons, List.drop_zero]
  iterate 6 (apply rel_isS; (intro W hW hf; have hx := HC.out W hW; go_simp; first | exact ⟨StayS.refl _ _, rfl⟩ | rfl); simp only [Act.put, List.setIfInBounds_toArray, List.set_cons_succ, List.set_cons_zero])
  apply rel_isS
  · intro W hW hf
    exact rel_callS hW rfl (by go_simp <;> first | rfl | exact ⟨rfl, rfl⟩ | exact ⟨rfl, rfl, rfl⟩) ((HD.out W).mono fun e W' h => ⟨_, h.1, h.2, rfl⟩)
  simp only [Act.put, List.setIfInBounds_toArray, List.set_cons_succ, List.set_cons_zero]
  iterate 2 (apply rel_isS; (intro W hW hf; go_simp; first | exact ⟨StayS.refl _ _, rfl⟩ | rfl); simp only [Act.put, List.setIfInBounds_toArray, List.set_cons_succ, List.set_cons_zero])
  refine rel_endS ?_
  intro W hW hf
  try simp only [Act.put, List.setIfInBounds_toArray, List.set_cons_succ, List.set_cons_zero]
  have HW := Lib.hid hW
  clear hW hf
  go_wp2_with fail
  go_ret
  exact ⟨congrArg (fun s => Ending.returned (.string s)) ((congrArg (fun s => s ++ str (decS g)) (str_app b bLog)).trans (str_app (b ++ bLog) (decS g))), HW.out⟩
end Go.Proofs.YtdmodhcbcpmadaaDoor
