/- several texts in one: the reference's disk: at, Used, Names, power., the reference's disk: New, power, Name., the reference's disk: put., the reference's disk: Read, Loose., the reference's disk: Append of a new file. -/
import Derived.Test.YtdmodhcbcpmadaaMg8
import Derived.Shelf.Abstract
section
set_option linter.unusedSimpArgs false
set_option linter.unusedVariables false
namespace Go.Proofs.Ytdmodhcbcpmadaa
open Go.RowKit

def rc (p : Nm × Value) : List Value := [.string (str p.1), p.2, .int .i64 0, .bool false]
theorem rc_len (p : Nm × Value) : (rc p).length = 4 := rfl
theorem rflat_len : ∀ l : List (Nm × Value), (l.flatMap rc).length = l.length * 4
  | [] => rfl
  | a :: l => by rw [List.flatMap_cons, List.length_append, rc_len, rflat_len l, List.length_cons, Nat.succ_mul, Nat.add_comm]
theorem rflat_get : ∀ (l : List (Nm × Value)) (i j : Nat), j < 4 → (l.flatMap rc)[i * 4 + j]? = (l[i]?).bind fun x => (rc x)[j]?
  | [], i, j, _ => by simp
  | a :: l, 0, j, hj => by rw [List.flatMap_cons, Nat.zero_mul, Nat.zero_add, List.getElem?_append_left (by rw [rc_len]; exact hj)]; rfl
  | a :: l, i + 1, j, hj => by
    rw [List.flatMap_cons, List.getElem?_append_right (by rw [rc_len, Nat.succ_mul]; omega), rc_len, show (i + 1) * 4 + j - 4 = i * 4 + j by rw [Nat.succ_mul]; omega, rflat_get l i j hj]
    rfl
/-- block q is the reference's disk, never short of power. -/
def RefAt (w : World) (q : Nat) (sz : Nat) (rs : List (Nm × Value)) (wr : Nat) : Prop :=
  ∃ v, w.heap[q]? = some (.cells #[.int .i64 sz, v, .int .i64 (-1), .int .i64 wr] 74 (0, 0)) ∧ w.ownsRow 0 83 4 v rs.length (rs.flatMap rc)
theorem RefAt.dw {w w' : World} {q sz wr p m : Nat} {rs : List (Nm × Value)} (h : RefAt w q sz rs wr) (hd : Dw w w' p m)
    (hp : ∀ cs, w.heap[p]? ≠ some (.cells cs 74 (0, 0)) ∧ w.heap[p]? ≠ some (.cells cs 83 (0, 0)))
    (hm : ∀ cs, w.heap[m]? ≠ some (.cells cs 74 (0, 0)) ∧ w.heap[m]? ≠ some (.cells cs 83 (0, 0))) : RefAt w' q sz rs wr := by
  obtain ⟨v, h1, h2⟩ := h
  refine ⟨v, (hd.block q (Array.getElem?_eq_some_iff.1 h1).1 (by rintro rfl; exact (hp _).1 h1) (by rintro rfl; exact (hm _).1 h1)).trans h1, h2.1, ?_⟩
  rcases h2.2 with h | ⟨g, cap, cur, e, hb, hg, r⟩
  · exact .inl h
  · exact .inr ⟨g, cap, cur, e, hb, (hd.block g (Array.getElem?_eq_some_iff.1 hg).1 (by rintro rfl; exact (hp _).2 hg) (by rintro rfl; exact (hm _).2 hg)).trans hg, r⟩
/-- the cells of the file at j. -/
theorem ref_cells {w : World} {rs : List (Nm × Value)} {v : Value} (h : w.ownsRow 0 83 4 v rs.length (rs.flatMap rc)) {j : Nat} (hj : j < rs.length) :
    ∃ g cap, v = .slice (some ⟨g, 0, none⟩) rs.length cap ∧ ∀ f u, f < 4 → (rc rs[j])[f]? = some u → w.cell? ⟨g, j * 4 + f, none⟩ = some u ∧ w.frozen? ⟨g, j * 4 + f, none⟩ = false := by
  rcases h.2 with ⟨_, h0⟩ | ⟨g, cap, cur, rfl, _, hg, _⟩
  · omega
  · refine ⟨g, cap, rfl, fun f u hf hu => ⟨?_, free_blk hg _⟩⟩
    have := h.cells (g := g) rfl (j * 4 + f) u (by rw [rflat_get _ _ _ hf, List.getElem?_eq_getElem hj]; exact hu)
    have hadd : (⟨g, 0, none⟩ : Addr).add (j * 4 + f) = ⟨g, j * 4 + f, none⟩ := by unfold Addr.add; split <;> simp_all
    rwa [hadd] at this
theorem str_ne {a b : Nm} (h : a ≠ b) : str a ≠ str b := fun e => h (str_inj e)
set_option maxRecDepth 100000 in
set_option maxHeartbeats 2000000 in
theorem rat_at {w : World} {q sz wr : Nat} {rs : List (Nm × Value)} (h : RefAt w q sz rs wr) (hl : rs.length ≤ 1000) (k : Nm) :
    Calls Try.prog 51 #[.pointer (some ⟨q, 0, none⟩), .string (str k)] w fun e w' => w' = w ∧ ((∃ j, ∃ h : j < rs.length, e = .returned (.int .i64 (j : Nat)) ∧ rs[j].1 = k) ∨ (e = .returned (.int .i64 (-1)) ∧ ∀ p ∈ rs, p.1 ≠ k)) := by
  obtain ⟨v, h1, h2⟩ := h
  have c1 := cell_blk h1 1
  simp only [List.getElem?_toArray, List.getElem?_cons_succ, List.getElem?_cons_zero] at c1
  obtain ⟨A, cap, rfl, _, _, hcap⟩ := own_rdS h2
  have H2 := Lib.hid h2
  clear h1 h2
  go_enter Try.func51, Try.ntmps51
  go_wp2_with fail
  go_loopw [5] (fun i wr' => ∃ j : Nat, j ≤ rs.length ∧ i = .int .i64 (j : Int) ∧ (∀ p ∈ rs.take j, p.1 ≠ k) ∧ wr' = w) (fun i _ => rs.length - (intOf i).toNat)
  case atStart => exact ⟨0, by omega, by go_num, by simp, rfl⟩
  case round =>
    obtain ⟨j, hj, rfl, hn, rfl⟩ := hrel
    have HN := Lib.hid hn
    clear hn
    by_cases hlt : j < rs.length
    · obtain ⟨g, cap', e, hc⟩ := ref_cells H2.out hlt
      injection e with e1 e2 e3
      subst e1; subst e3
      have c0 := (hc 0 _ (by omega) rfl).1
      rw [Nat.add_zero] at c0
      clear hc
      have HJ : Hid (∃ nm, nm = rs[j].1) := Lib.hid ⟨_, rfl⟩
      obtain ⟨nm, hnm⟩ := HJ.out
      rw [← hnm] at c0
      have HNM := Lib.hid hnm
      clear hnm HJ
      by_cases heq : nm = k
      · subst heq
        go_wp2_with fail
        go_ret
        exact ⟨rfl, .inl ⟨j, rfl, hlt, HNM.out.symm⟩⟩
      · have hs : ((str nm).toList == (str k).toList) = false := by rw [beq_eq_false_iff_ne, ByteArray.toList_mk, ByteArray.toList_mk]; exact heq
        go_wp2_with fail
        refine ⟨⟨j + 1, by omega, by go_num, ?_, trivial⟩, by simp [intOf]; omega⟩
        intro p hp
        rw [List.take_add_one, List.getElem?_eq_getElem hlt] at hp
        simp only [Option.toList, List.mem_append, List.mem_singleton] at hp
        rcases hp with hp | rfl
        · exact HN.out p hp
        · rw [← HNM.out]; exact heq
    · obtain rfl : j = rs.length := by omega
      go_wp2_with fail
      go_ret
      refine ⟨rfl, .inr ⟨rfl, fun p hp => HN.out p (by rw [List.take_length]; exact hp)⟩⟩
/-- lengths of all files. -/
def BLen (b : Nat) (v : Value) : Prop := ∃ A c, v = .slice A b c
def rused : List Nat → Nat := List.sum
set_option maxRecDepth 100000 in
set_option maxHeartbeats 2000000 in
theorem rused_at {w : World} {q sz wr : Nat} {rs : List (Nm × Value)} (h : RefAt w q sz rs wr) (hl : rs.length ≤ 1000) (bs : List Nat) (hbl : bs.length = rs.length) (hb : ∀ j (h1 : j < bs.length) (h2 : j < rs.length), BLen bs[j] rs[j].2) (hsum : ∀ j, (bs.take j).sum ≤ 1000000000) :
    Calls Try.prog 52 #[.pointer (some ⟨q, 0, none⟩)] w fun e w' => w' = w ∧ e = .returned (.int .i64 (bs.sum : Nat)) := by
  obtain ⟨v, h1, h2⟩ := h
  have c1 := cell_blk h1 1
  simp only [List.getElem?_toArray, List.getElem?_cons_succ, List.getElem?_cons_zero] at c1
  obtain ⟨A, cap, rfl, _, _, hcap⟩ := own_rdS h2
  have H2 := Lib.hid h2; have HB := Lib.hid hb; have HS := Lib.hid hsum; have HBL := Lib.hid hbl
  clear h1 h2 hb hsum hbl
  go_enter Try.func52, Try.ntmps52
  go_wp2_with fail
  go_loopw [3, 4] (fun i s wr' => ∃ j : Nat, j ≤ rs.length ∧ s = .int .i64 (j : Int) ∧ i = .int .i64 ((bs.take j).sum : Nat) ∧ wr' = w) (fun _ s _ => rs.length - (intOf s).toNat)
  case atStart => exact ⟨0, by omega, by go_num, by simp, rfl⟩
  case round =>
    obtain ⟨j, hj, rfl, rfl, rfl⟩ := hrel
    have hs1 := HS.out j
    by_cases hlt : j < rs.length
    · obtain ⟨g, cap', e, hc⟩ := ref_cells H2.out hlt
      injection e with e1 e2 e3
      subst e1; subst e3
      have hbj : j < bs.length := by rw [HBL.out]; exact hlt
      obtain ⟨Aj, cj, hv⟩ := HB.out j hbj hlt
      have c0 := (hc 1 _ (by omega) rfl).1
      rw [hv] at c0
      clear hc hv
      have hst : (bs.take (j + 1)).sum = (bs.take j).sum + bs[j] := by
        rw [List.take_add_one, List.getElem?_eq_getElem hbj]; simp only [Option.toList, List.sum_append, List.sum_cons, List.sum_nil, Nat.add_zero]
      have hs2 := HS.out (j + 1)
      rw [hst] at hs2
      have HST := Lib.hid hst
      clear hst
      generalize bs[j] = x at *
      generalize hy : (bs.take j).sum = y at *
      have HY := Lib.hid hy
      clear hy
      go_wp2_with fail
      refine ⟨⟨j + 1, by omega, by go_num, by rw [HST.out]; go_num, trivial⟩, by simp [intOf]; omega⟩
    · obtain rfl : j = rs.length := by omega
      have e : (bs.take rs.length).sum = bs.sum := by rw [← HBL.out, List.take_length]
      rw [e] at hs1
      rw [e]
      go_wp2_with fail
      go_ret
      exact ⟨rfl, rfl⟩
set_option maxRecDepth 100000 in
set_option maxHeartbeats 2000000 in
theorem rnames_at {w : World} {q sz wr : Nat} {rs : List (Nm × Value)} (h : RefAt w q sz rs wr) (hl : rs.length ≤ 1000) :
    Calls Try.prog 56 #[.pointer (some ⟨q, 0, none⟩)] w fun e w' => ∃ v, e = .returned v ∧ w'.ownsRow w.heap.size 9 1 v rs.length ((rs.map (·.1)).map encStr) ∧ Below w.heap.size w w' := by
  have hq := (Array.getElem?_eq_some_iff.1 h.choose_spec.1).1
  obtain ⟨v, h1, h2⟩ := h
  have c1 := cell_blk h1 1
  simp only [List.getElem?_toArray, List.getElem?_cons_succ, List.getElem?_cons_zero] at c1
  obtain ⟨A, cap, rfl, _, _, hcap⟩ := own_rdS h2
  have H2 := Lib.hid h2
  have C1 := Lib.hid c1
  clear h1 h2 c1
  go_enter Try.func56, Try.ntmps56
  go_wp2_with fail
  go_loopw [3, 4] (fun o s wr => ∃ j : Nat, j ≤ rs.length ∧ s = .int .i64 (j : Int) ∧ wr.ownsRow w.heap.size 9 1 o j (((rs.take j).map (·.1)).map encStr) ∧ Below w.heap.size w wr) (fun _ s _ => rs.length - (intOf s).toNat)
  case atStart => exact ⟨0, by omega, by go_num, World.ownsRow_nil _ _ _ _, Below.refl _ _⟩
  case round =>
    obtain ⟨j, hj, rfl, ho, hb⟩ := hrel
    have HO := Lib.hid ho; have HB := Lib.hid hb
    have c1 := (hb.cell (p := ⟨q, 1, none⟩) hq).trans C1.out
    by_cases hlt : j < rs.length
    · obtain ⟨g, cap', e, hc⟩ := ref_cells H2.out hlt
      have hgl := (H2.out.lt g (by rw [e]; rfl)).2
      injection e with e1 e2 e3
      subst e1; subst e3
      have c0 := (hc 0 _ (by omega) rfl).1
      rw [Nat.add_zero] at c0
      have c2 := (hb.cell (p := ⟨g, j * 4, none⟩) hgl).trans c0
      clear hc c0 ho hb
      obtain ⟨A5, c5, rfl, _⟩ := own_rdS HO.out
      have HST : Hid (((rs.take (j + 1)).map (·.1)).map encStr = ((rs.take j).map (·.1)).map encStr ++ [.string (str rs[j].1)]) := Lib.hid (by
        rw [List.take_add_one, List.getElem?_eq_getElem hlt]; simp only [Option.toList, List.map_append, List.map_cons, List.map_nil]; rfl)
      go_wp2_with (at_builtin; refine wpList_append_one0 ElStr rfl (.tmp 14) (.tmp 23) rfl w.heap.size (.string (str rs[j].1)) rfl _ j _ rfl HO.out rfl (by omega) (by omega) w (Nat.le_refl _) HB.out ?_; intro v' w' h2 h3 h4 h5; clear h4 h5; obtain ⟨g5, c6, rfl⟩ := ownsRow_succ h2; have O2 := Lib.hid h2; have B2 := Lib.hid h3; clear h2 h3)
      refine ⟨⟨j + 1, by omega, by go_num, by rw [HST.out]; exact O2.out, B2.out⟩, by simp [intOf]; omega⟩
    · obtain rfl : j = rs.length := by omega
      rw [List.take_length] at ho
      have HO2 := Lib.hid ho
      clear ho hb HO
      go_wp2_with fail
      go_ret
      exact ⟨_, rfl, HO2.out, HB.out⟩
end Go.Proofs.Ytdmodhcbcpmadaa
end

section
set_option linter.unusedSimpArgs false
set_option linter.unusedVariables false
namespace Go.Proofs.Ytdmodhcbcpmadaa
open Go.RowKit

set_option maxRecDepth 100000 in
set_option maxHeartbeats 2000000 in
theorem rnew_at (n : Nat) (h1 : 1 ≤ n) (h2 : n ≤ 67108864) (w : World) : Calls Try.prog 13 #[.int .i64 n] w fun e w' => e = .returned (.tuple #[.pointer (some ⟨w.heap.size, 0, none⟩), .int .i64 0]) ∧ RefAt w' w.heap.size n [] 0 ∧ Below w.heap.size w w' := by
  go_enter Try.func13, Try.ntmps13
  go_wp2_with fail
  go_ret2
  exact ⟨rfl, ⟨.slice none 0 0, heap_alloc_new w (.cells #[.int .i64 n, .slice none 0 0, .int .i64 (-1), .int .i64 0] 74), World.ownsRow_nil _ _ _ _⟩, below_alloc _ _⟩
set_option maxRecDepth 100000 in
set_option maxHeartbeats 2000000 in
theorem rpower_at {w : World} {q sz wr : Nat} {rs : List (Nm × Value)} (h : RefAt w q sz rs wr) (hw : wr ≤ 1000000) :
    Calls Try.prog 53 #[.pointer (some ⟨q, 0, none⟩)] w fun e w' => e = .returned (.bool true) ∧ RefAt w' q sz rs (wr + 1) ∧ w.grownBy w' (some q) := by
  obtain ⟨v, h1, h2⟩ := h
  have H1 := Lib.hid h1; have H2 := Lib.hid h2
  have c2 := cell_blk h1 2
  have c3 := cell_blk h1 3
  simp only [List.getElem?_toArray, List.getElem?_cons_succ, List.getElem?_cons_zero] at c2 c3
  have f3 := free_blk h1 3
  clear h1 h2
  go_enter Try.func53, Try.ntmps53
  go_wp2_with fail
  go_ret
  have hg := grown_setCell (World.grownBy.refl w (some q)) (p := ⟨q, 3, none⟩) rfl (.int .i64 (wr + 1 : Nat))
  refine ⟨rfl, ⟨v, set_blk H1.out 3 _, H2.out.kept hg ?_⟩, hg⟩
  rcases H2.out.2 with ⟨rfl, _⟩ | ⟨g, cap, cur, rfl, _, hgb, _⟩
  · exact .inl rfl
  · refine .inr fun e => ?_
    obtain rfl : g = q := by simpa [Value.ownBlock] using e
    rw [H1.out] at hgb
    injection hgb with e; injection e with _ e _; cases e
set_option maxRecDepth 100000 in
set_option maxHeartbeats 2000000 in
theorem rname_at (k : Nm) (h1 : 1 ≤ k.length) (h2 : k.length ≤ 40) (hk : ∀ c ∈ k, 97 ≤ c.toNat ∧ c.toNat ≤ 122) (w : World) :
    Calls Try.prog 50 #[.string (str k)] w fun e w' => e = .returned (.bool true) ∧ w' = w := by
  have hs := str_len k
  have HK := Lib.hid hk
  clear hk
  go_enter Try.func50, Try.ntmps50
  go_wp2_with fail
  go_loopw [3] (fun i wr => ∃ j : Nat, j ≤ k.length ∧ i = .int .i64 (j : Int) ∧ wr = w) (fun i _ => k.length - (intOf i).toNat)
  case atStart => exact ⟨0, by omega, by go_num, rfl⟩
  case round =>
    obtain ⟨j, hj, rfl, rfl⟩ := hrel
    by_cases hlt : j < k.length
    · have hj2 : j < (str k).size := by omega
      have hmem : (str k)[j]'hj2 ∈ k := by
        have : (str k)[j]'hj2 = k[j] := rfl
        rw [this]; exact List.getElem_mem hlt
      obtain ⟨hc1, hc2⟩ := HK.out _ hmem
      clear hmem
      go_wp2_with fail
      refine ⟨⟨j + 1, by omega, by go_num, trivial⟩, by simp [intOf]; omega⟩
    · obtain rfl : j = k.length := by omega
      go_wp2_with fail
      go_ret
      exact ⟨ret_bool (decide_eq_true (by omega)), rfl⟩
end Go.Proofs.Ytdmodhcbcpmadaa
end

section
set_option linter.unusedSimpArgs false
set_option linter.unusedVariables false
namespace Go.Proofs.Ytdmodhcbcpmadaa
open Go.RowKit

theorem ESF : ElS Try.prog 72 83 (.agg #[.string ByteArray.empty, .slice none 0 0, .int .i64 0, .bool false]) 4 56 := ⟨Try.underlying72, by kernel_rfl, rfl, by decide⟩
def newF (k : Nm) : Nm × Value := (k, .slice none 0 0)
/-- how far put has come: before the new file's place, or behind it. -/
def PutSt (k : Nm) (rs : List (Nm × Value)) (j : Nat) (b : Bool) (out : List (Nm × Value)) : Prop :=
  (b = false ∧ out = rs.take j ∧ ∀ p ∈ rs.take j, Op.bytesLess k p.1 = false) ∨
  (b = true ∧ ∃ i0, i0 < j ∧ out = rs.take i0 ++ newF k :: (rs.take j).drop i0 ∧ (∀ p ∈ rs.take i0, Op.bytesLess k p.1 = false) ∧ ∃ p, rs[i0]? = some p ∧ Op.bytesLess k p.1 = true)
theorem putst_len {k : Nm} {rs out : List (Nm × Value)} {j : Nat} {b : Bool} (h : PutSt k rs j b out) (hj : j ≤ rs.length) : out.length ≤ j + 1 := by
  rcases h with ⟨_, rfl, _⟩ | ⟨_, i0, h0, rfl, _⟩
  · rw [List.length_take]; omega
  · simp only [List.length_append, List.length_cons, List.length_take, List.length_drop]; omega
theorem take_next {α : Type} {l : List α} {j : Nat} (hj : j < l.length) : l.take (j + 1) = l.take j ++ [l[j]] := by
  rw [List.take_add_one, List.getElem?_eq_getElem hj]; rfl
theorem putst_on {k : Nm} {rs out : List (Nm × Value)} {j : Nat} {p : Nm × Value} (h : PutSt k rs j true out) (hj : j < rs.length) (hp : rs[j] = p) : PutSt k rs (j + 1) true (out ++ [p]) := by
  rcases h with ⟨h, _⟩ | ⟨_, i0, h0, rfl, h1, h2⟩
  · cases h
  · refine .inr ⟨rfl, i0, by omega, ?_, h1, h2⟩
    rw [take_next hj, hp, List.drop_append_of_le_length (by rw [List.length_take]; omega), List.append_assoc]
    rfl
theorem putst_off {k : Nm} {rs out : List (Nm × Value)} {j : Nat} {p : Nm × Value} (h : PutSt k rs j false out) (hj : j < rs.length) (hp : rs[j] = p) (hl : Op.bytesLess k p.1 = false) : PutSt k rs (j + 1) false (out ++ [p]) := by
  rcases h with ⟨_, rfl, h1⟩ | ⟨h, _⟩
  · refine .inl ⟨rfl, by rw [take_next hj, hp], ?_⟩
    intro x hx
    rw [take_next hj, hp, List.mem_append, List.mem_singleton] at hx
    rcases hx with hx | rfl
    · exact h1 x hx
    · exact hl
  · cases h
theorem putst_in {k : Nm} {rs out : List (Nm × Value)} {j : Nat} {p : Nm × Value} (h : PutSt k rs j false out) (hj : j < rs.length) (hp : rs[j] = p) (hl : Op.bytesLess k p.1 = true) : PutSt k rs (j + 1) true (out ++ [newF k] ++ [p]) := by
  rcases h with ⟨_, rfl, h1⟩ | ⟨h, _⟩
  · refine .inr ⟨rfl, j, by omega, ?_, h1, p, by rw [List.getElem?_eq_getElem hj, hp], hl⟩
    rw [take_next hj, hp, List.drop_append_of_le_length (by rw [List.length_take]; omega), List.drop_of_length_le (by rw [List.length_take]; omega), List.append_assoc]
    rfl
  · cases h
theorem rc_one (nm : Nm) (A : Option Addr) (n c : Nat) : ∀ y ∈ rc (nm, .slice A n c), y.oneCell' = true := by
  intro y hy; simp [rc] at hy; rcases hy with rfl | rfl | rfl | rfl <;> rfl
theorem flat_snoc (l : List (Nm × Value)) (p : Nm × Value) : (l ++ [p]).flatMap rc = l.flatMap rc ++ rc p := by simp
theorem below_drew1 {B : Nat} {w w' : World} (h : Below B w w') : Below B w w'.drew := ⟨h.os, h.tape, h.output, h.size, h.block⟩
/-- one element, behind a draw. -/
theorem wpList_append_oneSd {P : Program} {t e : TypeId} {z : Value} {sz bytes : Nat} (E : ElS P t e z sz bytes) {ops : Array Oper} {rest : List Oper} {o : Oper} {a : Act} {Q : Exit → Act → World → Prop} {w : World} (us : List Value) (cs : Array Value) (hcs : cs = us.toArray) (hgd : o.guard = none) (s x : Operand)
    (ho : o.op = .call { callee := .builtin .append, args := #[s, x], argTypes := #[t, t] }) (base : Nat) (hu : ∀ u ∈ us, u.oneCell' = true) (m : Nat) (hm : us.length = m * sz)
    (v : Value) (n : Nat) (xs : List Value) (hs : a.eval s = v) (hown : w.ownsRow base e sz v n xs) (hx : a.eval x = .slice (some ⟨w.heap.size, 0, none⟩) m m)
    (h63 : n + m ≤ 1000000000000) (hbytes : bytes ≤ 100) (w0 : World) (hB : base ≤ w0.heap.size) (hbel : Below base w0 w)
    (h : ∀ v' w', w'.ownsRow base e sz v' (n + m) (xs ++ us) → Below base w0 w' → wpList P ops Q rest (a.put o.dst v') w') :
    wpList P ops Q (o :: rest) a (w.alloc (.cells cs e)).drew := by
  subst hcs
  refine wpList_append_srcS E hgd s x ho base v n xs hs (w := (w.alloc (.cells us.toArray e)).drew) (hown.alloc _) (w.heap.size + 1) (some ⟨w.heap.size, 0, none⟩) us m m hx hm ?_ (by intro h; cases h) hu (by omega) hbytes w0 hB (below_drew1 (hbel.alloc (Nat.le_trans hB hbel.size) _)) ?_
  · intro j y hy
    refine ⟨_, 0, rfl, by omega, ?_⟩
    show (w.alloc (.cells us.toArray e)).cell? _ = _
    rw [cell_blk (T := e) (heap_alloc_new _ _)]
    simpa using hy
  · intro v' w' h2 h3 h4 h5
    exact h v' w' h2 h3
/-- where the new file comes to lie. -/
def PutAt (k : Nm) (rs rs' : List (Nm × Value)) : Prop := ∃ i0, i0 ≤ rs.length ∧ rs' = rs.take i0 ++ newF k :: rs.drop i0 ∧ (∀ p ∈ rs.take i0, Op.bytesLess k p.1 = false) ∧ (∀ p, rs[i0]? = some p → Op.bytesLess k p.1 = true)
theorem putst_end {k : Nm} {rs out : List (Nm × Value)} (h : PutSt k rs rs.length true out) : PutAt k rs out := by
  rcases h with ⟨h, _⟩ | ⟨_, i0, h0, rfl, h1, p, h2, h3⟩
  · cases h
  · exact ⟨i0, by omega, by rw [List.take_length], h1, fun x hx => by rw [h2] at hx; cases hx; exact h3⟩
theorem putst_last {k : Nm} {rs out : List (Nm × Value)} (h : PutSt k rs rs.length false out) : PutAt k rs (out ++ [newF k]) := by
  rcases h with ⟨_, rfl, h1⟩ | ⟨h, _⟩
  · exact ⟨rs.length, Nat.le_refl _, by simp, h1, fun x hx => by simp at hx⟩
  · cases h
/-- the files lie in a block of B or above. -/
def RefNew (w : World) (B q : Nat) : Prop := ∀ g o n c, w.cell? ⟨q, 1, none⟩ = some (.slice (some ⟨g, o, none⟩) n c) → B ≤ g
theorem RefAt.stored {w w0 w1 : World} {q sz wr : Nat} {v v' : Value} {rs : List (Nm × Value)} (h1 : w.heap[q]? = some (.cells #[.int .i64 sz, v, .int .i64 (-1), .int .i64 wr] 74 (0, 0))) (hq : q < w0.heap.size) (hw0 : w.heap.size ≤ w0.heap.size) (hb : Below w.heap.size w w1)
    (ho : w1.ownsRow w0.heap.size 83 4 v' rs.length (rs.flatMap rc)) : RefAt (w1.setCell ⟨q, 1, none⟩ v') q sz rs wr ∧ w.grownBy (w1.setCell ⟨q, 1, none⟩ v') (some q) ∧ RefNew (w1.setCell ⟨q, 1, none⟩ v') w.heap.size q := by
  have hql := (Array.getElem?_eq_some_iff.1 h1).1
  have h2 := (hb.block q hql).trans h1
  have hg : w1.grownBy (w1.setCell ⟨q, 1, none⟩ v') (some q) := grown_setCell (World.grownBy.refl w1 (some q)) (p := ⟨q, 1, none⟩) rfl v'
  refine ⟨⟨v', set_blk h2 1 _, ?_⟩, grown_setCell ⟨hb.os, hb.tape, hb.output, hb.size, fun k hk _ => hb.block k hk⟩ (p := ⟨q, 1, none⟩) rfl v', fun g o n c hc => ?_⟩
  rotate_left
  · rw [cell_blk (set_blk h2 1 v')] at hc
    simp at hc
    subst hc
    rcases ho.2 with ⟨e, _⟩ | ⟨g', cap, cur, e, hbg, _⟩
    · injection e with e; cases e
    · injection e with e; injection e with e; injection e with e1 e2
      omega
  have := ho.kept hg (by
    rcases ho.2 with ⟨rfl, _⟩ | ⟨g, cap, cur, rfl, hbg, hgb, _⟩
    · exact .inl rfl
    · refine .inr fun e => ?_
      obtain rfl : g = q := by simpa [Value.ownBlock] using e
      omega)
  exact ⟨this.1, this.2.imp id (fun ⟨g, cap, cur, e, _, r⟩ => ⟨g, cap, cur, e, Nat.zero_le _, r⟩)⟩
set_option maxRecDepth 100000 in
set_option maxHeartbeats 2000000 in
theorem rput_at {w : World} {q sz wr : Nat} {rs : List (Nm × Value)} (h : RefAt w q sz rs wr) (hl : rs.length ≤ 1000) (k : Nm) (hsl : ∀ p ∈ rs, ∃ A n c, p.2 = .slice A n c) :
    Calls Try.prog 54 #[.pointer (some ⟨q, 0, none⟩), .agg #[.string (str k), .slice none 0 0, .int .i64 0, .bool false]] w fun e w' => e = .returned (.tuple #[]) ∧ ∃ rs', PutAt k rs rs' ∧ RefAt w' q sz rs' wr ∧ w.grownBy w' (some q) ∧ RefNew w' w.heap.size q := by
  have HSL := Lib.hid hsl
  clear hsl
  have hq := (Array.getElem?_eq_some_iff.1 h.choose_spec.1).1
  obtain ⟨v, h1, h2⟩ := h
  have c1 := cell_blk h1 1
  simp only [List.getElem?_toArray, List.getElem?_cons_succ, List.getElem?_cons_zero] at c1
  obtain ⟨A, cap, rfl, _, _, hcap⟩ := own_rdS h2
  have H1 := Lib.hid h1; have H2 := Lib.hid h2
  have C1 := Lib.hid c1
  clear h1 h2 c1
  go_enter Try.func54, Try.ntmps54
  go_wp2_with fail
  have hb0 := below_alloc w (.cells #[.string (str k), .slice none 0 0, .int .i64 0, .bool false] 83)
  have hx0 := heap_alloc_new w (.cells #[.string (str k), .slice none 0 0, .int .i64 0, .bool false] 83)
  generalize w.alloc (.cells #[.string (str k), .slice none 0 0, .int .i64 0, .bool false] 83) = w0 at *
  have hz0 : w.heap.size < w0.heap.size := (Array.getElem?_eq_some_iff.1 hx0).1
  have HB0 := Lib.hid hb0; have HX0 := Lib.hid hx0
  clear hb0 hx0
  go_loopw [4, 5, 6] (fun o b s wr => ∃ (j : Nat) (out : List (Nm × Value)) (bb : Bool), j ≤ rs.length ∧ s = .int .i64 (j : Int) ∧ b = .bool bb ∧ wr.ownsRow w0.heap.size 83 4 o out.length (out.flatMap rc) ∧ Below w0.heap.size w0 wr ∧ PutSt k rs j bb out) (fun _ _ s _ => rs.length - (intOf s).toNat)
  case atStart => exact ⟨0, [], false, by omega, by go_num, rfl, World.ownsRow_nil _ _ _ _, Below.refl _ _, .inl ⟨rfl, rfl, by simp⟩⟩
  case round =>
    obtain ⟨j, out, bb, hj, rfl, rfl, ho, hb, hp⟩ := hrel
    have HO := Lib.hid ho; have HB := Lib.hid hb; have HP := Lib.hid hp
    have hb1 := HB0.out.trans (hb.mono (Nat.le_of_lt hz0))
    have c1 := (hb1.cell (p := ⟨q, 1, none⟩) hq).trans C1.out
    have hx := (hb.block w.heap.size hz0).trans HX0.out
    have x0 := cell_blk hx 0; have x1 := cell_blk hx 1; have x2 := cell_blk hx 2; have x3 := cell_blk hx 3
    simp only [List.getElem?_toArray, List.getElem?_cons_succ, List.getElem?_cons_zero] at x0 x1 x2 x3
    clear ho hb hp hx
    obtain ⟨A5, c5, rfl, _⟩ := own_rdS HO.out
    by_cases hlt : j < rs.length
    · obtain ⟨g, cap', e, hc⟩ := ref_cells H2.out hlt
      have hgl := (H2.out.lt g (by rw [e]; rfl)).2
      injection e with e1 e2 e3
      subst e1; subst e3
      have d0 := (hb1.cell (p := ⟨g, j * 4 + 0, none⟩) hgl).trans (hc 0 _ (by omega) rfl).1
      have d1 := (hb1.cell (p := ⟨g, j * 4 + 1, none⟩) hgl).trans (hc 1 _ (by omega) rfl).1
      have d2 := (hb1.cell (p := ⟨g, j * 4 + 2, none⟩) hgl).trans (hc 2 _ (by omega) rfl).1
      have d3 := (hb1.cell (p := ⟨g, j * 4 + 3, none⟩) hgl).trans (hc 3 _ (by omega) rfl).1
      rw [Nat.add_zero] at d0
      have D0 := Lib.hid (fun (W : World) (hb : Below w.heap.size w W) => show W.cell? ⟨g, j * 4, none⟩ = some (.string (str rs[j].1)) ∧ W.cell? ⟨g, j * 4 + 1, none⟩ = some rs[j].2 ∧ W.cell? ⟨g, j * 4 + 2, none⟩ = some (.int .i64 0) ∧ W.cell? ⟨g, j * 4 + 3, none⟩ = some (.bool false) from
        ⟨(hb.cell (p := ⟨g, j * 4 + 0, none⟩) hgl).trans (hc 0 _ (by omega) rfl).1, (hb.cell (p := ⟨g, j * 4 + 1, none⟩) hgl).trans (hc 1 _ (by omega) rfl).1, (hb.cell (p := ⟨g, j * 4 + 2, none⟩) hgl).trans (hc 2 _ (by omega) rfl).1, (hb.cell (p := ⟨g, j * 4 + 3, none⟩) hgl).trans (hc 3 _ (by omega) rfl).1⟩)
      clear hc hb1
      have HJ : Hid (∃ nm A n c, rs[j] = (nm, .slice A n c)) := Lib.hid (by
        obtain ⟨A, n, c, e⟩ := HSL.out rs[j] (List.getElem_mem hlt)
        exact ⟨rs[j].1, A, n, c, by rw [← e]⟩)
      obtain ⟨nm, Au, nu, cu, hnm⟩ := HJ.out
      rw [hnm] at d0 d1 D0
      have HNM := Lib.hid hnm
      have hlen := putst_len HP.out hj
      have HLT := Lib.hid hlt
      clear hnm HJ
      cases bb with
      | true =>
        go_wp2_with fail
        go_region
        go_wp2_with (at_builtin; refine wpList_append_oneSd ESF [.string (str nm), .slice Au nu cu, .int .i64 0, .bool false] _ rfl rfl (.tmp 35) (.tmp 43) rfl w0.heap.size (rc_one _ _ _ _) 1 rfl _ out.length _ rfl HO.out rfl (by omega) (by omega) w0 (Nat.le_refl _) HB.out ?_; intro v' w' h2 h3; obtain ⟨g6, c6, rfl⟩ := ownsRow_succ h2; have O2 := Lib.hid h2; have B2 := Lib.hid h3; clear h2 h3)
        refine ⟨⟨j + 1, out ++ [(nm, .slice Au nu cu)], true, by omega, by go_num, rfl, by rw [flat_snoc, List.length_append]; exact O2.out, B2.out, putst_on HP.out HLT.out HNM.out⟩, by simp [intOf]; omega⟩
      | false =>
        cases hcmp : Op.bytesLess (str k).toList (str nm).toList with
        | false =>
          have HC : Hid (Op.bytesLess k nm = false) := Lib.hid (by rw [ByteArray.toList_mk, ByteArray.toList_mk] at hcmp; exact hcmp)
          go_wp2_with fail
          go_region
          go_wp2_with (at_builtin; refine wpList_append_oneSd ESF [.string (str nm), .slice Au nu cu, .int .i64 0, .bool false] _ rfl rfl (.tmp 35) (.tmp 43) rfl w0.heap.size (rc_one _ _ _ _) 1 rfl _ out.length _ rfl HO.out rfl (by omega) (by omega) w0 (Nat.le_refl _) HB.out ?_; intro v' w' h2 h3; obtain ⟨g6, c6, rfl⟩ := ownsRow_succ h2; have O2 := Lib.hid h2; have B2 := Lib.hid h3; clear h2 h3)
          refine ⟨⟨j + 1, out ++ [(nm, .slice Au nu cu)], false, by omega, by go_num, rfl, by rw [flat_snoc, List.length_append]; exact O2.out, B2.out, putst_off HP.out HLT.out HNM.out HC.out⟩, by simp [intOf]; omega⟩
        | true =>
          have HC : Hid (Op.bytesLess k nm = true) := Lib.hid (by rw [ByteArray.toList_mk, ByteArray.toList_mk] at hcmp; exact hcmp)
          have HC1 := Lib.hid C1.out
          go_wp2_with fail
          go_region
          go_upto_region 9 with (at_builtin; refine wpList_append_oneSd ESF [.string (str k), .slice none 0 0, .int .i64 0, .bool false] _ rfl rfl (.tmp 31) (.tmp 33) rfl w0.heap.size (rc_one _ _ _ _) 1 rfl _ out.length _ rfl HO.out rfl (by omega) (by omega) w0 (Nat.le_refl _) HB.out ?_; intro v' w' h2 h3; obtain ⟨g6, c6, rfl⟩ := ownsRow_succ h2; have O2 := Lib.hid h2; have B2 := Lib.hid h3; clear h2 h3)
          have hb1 := HB0.out.trans ((B2.out).mono (Nat.le_of_lt hz0))
          have c1 := (hb1.cell (p := ⟨q, 1, none⟩) hq).trans C1.out
          obtain ⟨d0, d1, d2, d3⟩ := D0.out _ hb1
          clear hb1
          go_wp2_with (at_builtin; refine wpList_append_oneS ESF [.string (str nm), .slice Au nu cu, .int .i64 0, .bool false] _ rfl rfl (.tmp 35) (.tmp 43) rfl w0.heap.size (rc_one _ _ _ _) 1 rfl _ (out.length + 1) _ rfl O2.out rfl (by omega) (by omega) w0 (Nat.le_refl _) B2.out ?_; intro v' w' h2 h3 h4 h5; clear h4 h5; obtain ⟨g7, c7, rfl⟩ := ownsRow_succ h2; have O3 := Lib.hid h2; have B3 := Lib.hid h3; clear h2 h3)
          refine ⟨⟨j + 1, out ++ [newF k] ++ [(nm, .slice Au nu cu)], true, by omega, by go_num, rfl, by rw [flat_snoc, flat_snoc, List.length_append, List.length_append]; exact O3.out, B3.out, putst_in HP.out HLT.out HNM.out HC.out⟩, by simp [intOf]; omega⟩
    · obtain rfl : j = rs.length := by omega
      have hlen := putst_len HP.out (Nat.le_refl _)
      cases bb with
      | true =>
        have f1 : wr.frozen? ⟨q, 1, none⟩ = false := free_blk ((hb1.block q hq).trans H1.out) 1
        have HB1 := Lib.hid hb1
        clear hb1
        go_wp2_with fail
        go_end0
        exact ⟨rfl, out, putst_end HP.out, RefAt.stored H1.out (Nat.lt_trans hq hz0) (Nat.le_of_lt hz0) HB1.out HO.out⟩
      | false =>
        clear hb1
        go_wp2_with (at_builtin; refine wpList_append_oneS ESF [.string (str k), .slice none 0 0, .int .i64 0, .bool false] _ rfl rfl (.tmp 47) (.tmp 49) rfl w0.heap.size (rc_one _ _ _ _) 1 rfl _ out.length _ rfl HO.out rfl (by omega) (by omega) w0 (Nat.le_refl _) HB.out ?_; intro v' w' h2 h3 h4 h5; clear h4 h5; obtain ⟨g6, c6, rfl⟩ := ownsRow_succ h2; have O2 := Lib.hid h2; have B2 := Lib.hid (HB0.out.trans (h3.mono (Nat.le_of_lt hz0))); clear h2 h3; have c1 := ((B2.out).cell (p := ⟨q, 1, none⟩) hq).trans C1.out; have f1 : w'.frozen? ⟨q, 1, none⟩ = false := free_blk (((B2.out).block q hq).trans H1.out) 1)
        go_end0
        exact ⟨rfl, _, putst_last HP.out, RefAt.stored H1.out (Nat.lt_trans hq hz0) (Nat.le_of_lt hz0) B2.out (by rw [List.length_append, flat_snoc]; exact O2.out)⟩
end Go.Proofs.Ytdmodhcbcpmadaa
end

section
set_option linter.unusedSimpArgs false
set_option linter.unusedVariables false
namespace Go.Proofs.Ytdmodhcbcpmadaa
open Go.RowKit

/-- v holds the bytes b. -/
def BV (w : World) (b : List UInt8) (v : Value) : Prop := ∃ A c, v = .slice A b.length c ∧ Bs w w.heap.size A b ∧ (A = none → b = [])
set_option maxRecDepth 100000 in
set_option maxHeartbeats 2000000 in
theorem rread_at {w : World} {q sz wr : Nat} {rs : List (Nm × Value)} (h : RefAt w q sz rs wr) (hl : rs.length ≤ 1000) (k : Nm) (b : List UInt8) (hbl : b.length ≤ 10000) (hb : ∀ j (hj : j < rs.length), rs[j].1 = k → BV w b rs[j].2) :
    Calls Try.prog 55 #[.pointer (some ⟨q, 0, none⟩), .string (str k)] w fun e w' => Below w.heap.size w w' ∧ (((∃ p ∈ rs, p.1 = k) ∧ ∃ v, e = .returned (.tuple #[v, .int .i64 0]) ∧ w'.ownsRow w.heap.size 5 1 v b.length (bcells b)) ∨ ((∀ p ∈ rs, p.1 ≠ k) ∧ e = .returned (.tuple #[.slice none 0 0, .int .i64 6]))) := by
  have HA := Lib.hid (rat_at h hl k)
  have HB := Lib.hid hb
  obtain ⟨v, h1, h2⟩ := h
  have c1 := cell_blk h1 1
  simp only [List.getElem?_toArray, List.getElem?_cons_succ, List.getElem?_cons_zero] at c1
  obtain ⟨A, cap, rfl, _, _, hcap⟩ := own_rdS h2
  have H2 := Lib.hid h2
  have hq := (Array.getElem?_eq_some_iff.1 h1).1
  clear h1 h2 hb
  go_enter Try.func55, Try.ntmps55
  go_wp2_with fail
  refine HA.out.mono ?_
  rintro e w1 ⟨rfl, he⟩
  rcases he with ⟨j, hlt, rfl, hjk⟩ | ⟨rfl, hno⟩
  · obtain ⟨Ab, cb, hv, hbs, hA0⟩ := HB.out j hlt hjk
    obtain ⟨g, cap', e, hc⟩ := ref_cells H2.out hlt
    have hgl := (H2.out.lt g (by rw [e]; rfl)).2
    injection e with e1 e2 e3
    subst e1; subst e3
    have d1 := (hc 1 _ (by omega) rfl).1
    rw [hv] at d1
    have HD := Lib.hid (fun o => (World.cell?_alloc_lt (w := w1) (o := o) (a := ⟨g, j * 4 + 1, none⟩) hgl).trans d1)
    have HC := Lib.hid (fun o => (World.cell?_alloc_lt (w := w1) (o := o) (a := ⟨q, 1, none⟩) hq).trans c1)
    have d2 := HD.out (.cells #[] 5)
    have c2 := HC.out (.cells #[] 5)
    have HMEM : Hid (∃ p ∈ rs, p.1 = k) := Lib.hid ⟨_, List.getElem_mem hlt, hjk⟩
    have HBS := Lib.hid hbs; have HA0 := Lib.hid hA0
    generalize hbn : b.length = n at *
    have HBN := Lib.hid hbn
    clear hc hv hjk hbs hA0 hbn d1
    go_wp2_with (at_builtin; refine wpList_append_src E5 rfl (.tmp 12) (.tmp 20) rfl w1.heap.size _ 0 [] rfl (owns0S w1 _ _ _ (Nat.le_refl _)) w1.heap.size Ab (bcells b) n cb rfl (by rw [← HBN.out]; exact bcells_length b) ((HBS.out.rd).keep fun b' o hb' => World.cell?_alloc_lt _ _ _ hb') (fun hn => by rw [← HBN.out, HA0.out hn]; rfl) (bcells_one b) (by omega) (by omega) w1 (Nat.le_refl _) (below_alloc _ _) ?_; intro v' w' h2 h3 h4 h5; clear h4 h5; obtain ⟨A6, c6, rfl, _⟩ := own_rdS h2; have O2 := Lib.hid h2; have B2 := Lib.hid h3; clear h2 h3)
    go_ret2
    have := O2.out
    rw [List.nil_append, Nat.zero_add] at this
    exact ⟨B2.out, .inl ⟨HMEM.out, .slice A6 n c6, rfl, by rw [HBN.out]; exact this⟩⟩
  · have HN := Lib.hid hno
    clear hno
    go_wp2_with fail
    go_ret2
    exact ⟨Below.refl _ _, .inr ⟨HN.out, rfl⟩⟩
set_option maxRecDepth 100000 in
set_option maxHeartbeats 2000000 in
theorem rloose_at {w : World} {q sz wr : Nat} {rs : List (Nm × Value)} (h : RefAt w q sz rs wr) (hl : rs.length ≤ 1000) (k : Nm) (n : Nat) (hbl : n ≤ 10000) (hb : ∀ j (hj : j < rs.length), rs[j].1 = k → BLen n rs[j].2) :
    Calls Try.prog 59 #[.pointer (some ⟨q, 0, none⟩), .string (str k)] w fun e w' => Below w.heap.size w w' ∧ (((∃ p ∈ rs, p.1 = k) ∧ e = .returned (.int .i64 (n : Nat))) ∨ ((∀ p ∈ rs, p.1 ≠ k) ∧ e = .returned (.int .i64 0))) := by
  have HA := Lib.hid (rat_at h hl k)
  have HB := Lib.hid hb
  obtain ⟨v, h1, h2⟩ := h
  have c1 := cell_blk h1 1
  simp only [List.getElem?_toArray, List.getElem?_cons_succ, List.getElem?_cons_zero] at c1
  obtain ⟨A, cap, rfl, _, _, hcap⟩ := own_rdS h2
  have H2 := Lib.hid h2
  clear h1 h2 hb
  go_enter Try.func59, Try.ntmps59
  go_wp2_with fail
  refine HA.out.mono ?_
  rintro e w1 ⟨rfl, he⟩
  rcases he with ⟨j, hlt, rfl, hjk⟩ | ⟨rfl, hno⟩
  · obtain ⟨Ab, cb, hv⟩ := HB.out j hlt hjk
    obtain ⟨g, cap', e, hc⟩ := ref_cells H2.out hlt
    injection e with e1 e2 e3
    subst e1; subst e3
    have d1 := (hc 1 _ (by omega) rfl).1
    have d2 := (hc 2 _ (by omega) rfl).1
    rw [hv] at d1
    have HMEM : Hid (∃ p ∈ rs, p.1 = k) := Lib.hid ⟨_, List.getElem_mem hlt, hjk⟩
    clear hc hv hjk
    go_wp2_with fail
    go_region
    go_wp2_with fail
    go_ret
    exact ⟨below_drew1 (Below.refl _ _), .inl ⟨HMEM.out, by simp⟩⟩
  · have HN := Lib.hid hno
    clear hno
    go_wp2_with fail
    go_ret
    exact ⟨Below.refl _ _, .inr ⟨HN.out, rfl⟩⟩
end Go.Proofs.Ytdmodhcbcpmadaa
end

section
set_option linter.unusedSimpArgs false
set_option linter.unusedVariables false
namespace Go.Proofs.Ytdmodhcbcpmadaa
open Go.RowKit

set_option maxRecDepth 100000 in
set_option maxHeartbeats 2000000 in
theorem rfull_at {w : World} {q sz wr : Nat} {rs : List (Nm × Value)} (h : RefAt w q sz rs wr) (hl : rs.length ≤ 1000) (hsz : sz ≤ 100000000) (k : Nm) (k1 : 1 ≤ k.length) (k2 : k.length ≤ 40) (hk : ∀ c ∈ k, 97 ≤ c.toNat ∧ c.toNat ≤ 122) (hno : ∀ p ∈ rs, p.1 ≠ k)
    (bs : List Nat) (hbl : bs.length = rs.length) (hb : ∀ j (h1 : j < bs.length) (h2 : j < rs.length), BLen bs[j] rs[j].2) (hsum : ∀ j, (bs.take j).sum ≤ 1000000) (hsm : bs.sum ≤ 1000000) (C : Option Addr) (n cap : Nat) (hn : n ≤ 1000000) (hfull : 256 ≤ rs.length ∨ sz < bs.sum + n) :
    Calls Try.prog 15 #[.pointer (some ⟨q, 0, none⟩), .string (str k), .slice C n cap] w fun e w' => e = .returned (.int .i64 8) ∧ Below w.heap.size w w' := by
  have HN := Lib.hid (rname_at k k1 k2 hk w)
  have HA := Lib.hid (rat_at h hl k)
  have HNO := Lib.hid hno
  have HUS := Lib.hid (fun W (hW : Below w.heap.size w W) => rused_at (w := W) (h.dw (Dw.of_below (p := W.heap.size) (m := W.heap.size) hW) (fun cs => ⟨by rw [Array.getElem?_eq_none (by have := hW.size; omega)]; simp, by rw [Array.getElem?_eq_none (by have := hW.size; omega)]; simp⟩) (fun cs => ⟨by rw [Array.getElem?_eq_none (by have := hW.size; omega)]; simp, by rw [Array.getElem?_eq_none (by have := hW.size; omega)]; simp⟩)) hl bs hbl hb (fun j => Nat.le_trans (hsum j) (by omega)))
  obtain ⟨v, h1, h2⟩ := h
  have hq := (Array.getElem?_eq_some_iff.1 h1).1
  obtain ⟨A, vcap, rfl, _, _, hcap⟩ := own_rdS h2
  have HCC : Hid (∀ W, Below w.heap.size w W → W.cell? ⟨q, 0, none⟩ = some (.int .i64 sz) ∧ W.cell? ⟨q, 1, none⟩ = some (.slice A rs.length vcap)) := Lib.hid fun W hW => by
    have a0 := cell_blk ((hW.block _ hq).trans h1) 0
    have a1 := cell_blk ((hW.block _ hq).trans h1) 1
    exact ⟨a0, a1⟩
  generalize hbsum : bs.sum = us at *
  clear h1 h2 hno hbl hb hsum hk hbsum
  go_enter Try.func15, Try.ntmps15
  go_wp2_with fail
  refine HN.out.mono ?_
  rintro e w1 ⟨rfl, rfl⟩
  go_wp2_with fail
  refine HA.out.mono ?_
  rintro e w2 ⟨rfl, he⟩
  rcases he with ⟨j, hlt, rfl, hjk⟩ | ⟨rfl, _⟩
  · exact absurd hjk (HNO.out _ (List.getElem_mem hlt))
  by_cases hmany : 256 ≤ rs.length
  · have hm2 : (256 : Int) ≤ rs.length := by omega
    go_upto_region 4 with (fail)
    apply wp_region_relH (H := []) 22 [(Sum.inl _ : TT), (Sum.inl _ : TT), (Sum.inl _ : TT), (Sum.inl _ : TT), (Sum.inl _ : TT), (Sum.inl _ : TT), (Sum.inl _ : TT), (Sum.inl _ : TT), (Sum.inl _ : TT), (Sum.inl _ : TT), (Sum.inl _ : TT), (Sum.inl _ : TT), (Sum.inl _ : TT), (Sum.inl _ : TT), (Sum.inl _ : TT), (Sum.inl _ : TT), (Sum.inl _ : TT), (Sum.inl _ : TT), (Sum.inl _ : TT), (Sum.inl _ : TT), (Sum.inl _ : TT), (Sum.inl _ : TT)] (by kernel_rfl) (by kernel_rfl) (fun _ _ _ _ _ h => h) rfl
    simp only [List.take_succ_cons, List.take_zero, List.drop_succ_cons, List.drop_zero]
    iterate 22 (apply rel_isS; (intro W hW hf; obtain ⟨z1, z2⟩ := HCC.out W hW; go_simp; first | exact ⟨StayS.refl _ _, rfl⟩ | rfl); simp only [Act.put, List.setIfInBounds_toArray, List.set_cons_succ, List.set_cons_zero])
    refine rel_endS ?_
    intro W hW hf
    try simp only [Act.put, List.setIfInBounds_toArray, List.set_cons_succ, List.set_cons_zero]
    refine wpList_nil ?_
    have HH6 := Lib.hid hW
    clear hW hf
    go_wp2_with fail
    go_ret
    exact ⟨rfl, HH6.out⟩
  · have hm2 : ¬ (256 : Int) ≤ rs.length := by omega
    have hgt : (sz : Int) < IntKind.i64.wrap ((us : Int) + n) := by rw [wi64 _ (by omega) (by omega)]; omega
    go_upto_region 4 with (fail)
    apply wp_region_relH (H := []) 22 [(Sum.inl _ : TT), (Sum.inl _ : TT), (Sum.inl _ : TT), (Sum.inl _ : TT), (Sum.inl _ : TT), (Sum.inl _ : TT), (Sum.inl _ : TT), (Sum.inl _ : TT), (Sum.inl _ : TT), (Sum.inl _ : TT), (Sum.inl _ : TT), (Sum.inl _ : TT), (Sum.inl _ : TT), (Sum.inl _ : TT), (Sum.inl _ : TT), (Sum.inl _ : TT), (Sum.inl _ : TT), (Sum.inl _ : TT), (Sum.inl _ : TT), (Sum.inl _ : TT), (Sum.inl _ : TT), (Sum.inl _ : TT)] (by kernel_rfl) (by kernel_rfl) (fun _ _ _ _ _ h => h) rfl
    simp only [List.take_succ_cons, List.take_zero, List.drop_succ_cons, List.drop_zero]
    iterate 12 (apply rel_isS; (intro W hW hf; obtain ⟨z1, z2⟩ := HCC.out W hW; go_simp; first | exact ⟨StayS.refl _ _, rfl⟩ | rfl); simp only [Act.put, List.setIfInBounds_toArray, List.set_cons_succ, List.set_cons_zero])
    apply rel_isS
    · intro W hW hf
      exact rel_callS hW (by first | rfl | (go_simp; done) | (go_simp; simp)) (by go_simp <;> first | rfl | exact ⟨rfl, rfl⟩ | exact ⟨rfl, rfl, rfl⟩) ((HUS.out W hW).mono fun e w'' h => ⟨_, h.2, h.1 ▸ Below.refl _ _, rfl⟩)
    simp only [Act.put, List.setIfInBounds_toArray, List.set_cons_succ, List.set_cons_zero]
    iterate 9 (apply rel_isS; (intro W hW hf; obtain ⟨z1, z2⟩ := HCC.out W hW; go_simp; first | exact ⟨StayS.refl _ _, rfl⟩ | rfl); simp only [Act.put, List.setIfInBounds_toArray, List.set_cons_succ, List.set_cons_zero])
    refine rel_endS ?_
    intro W hW hf
    try simp only [Act.put, List.setIfInBounds_toArray, List.set_cons_succ, List.set_cons_zero]
    refine wpList_nil ?_
    have HH6 := Lib.hid hW
    clear hW hf
    go_wp2_with fail
    all_goals try (exfalso; omega)
    go_ret
    exact ⟨rfl, HH6.out⟩
end Go.Proofs.Ytdmodhcbcpmadaa
end
