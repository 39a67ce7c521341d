/- several texts in one: a range over a map from names to values, under way; the names in order., disk.Used. -/
import Derived.Test.YtegekaocbalndaaGreatDoorMw
import Derived.Sort.KeysCollected
import Derived.Test.YtegekaocbalndaaGreatDoorMg6
section
set_option linter.unusedSimpArgs false
set_option linter.unusedVariables false
namespace Go.Proofs.YtegekaocbalndaaGreatDoor
open Go.RowKit

/-- the sum of what is still to come. -/
def nsum {α : Type} (f : α → Nat) (L : Nm → Bool) : Nl α → Nat
  | [] => 0
  | p :: l => (if L p.1 = true then f p.2 else 0) + nsum f L l
theorem nsum_congr {α : Type} (f : α → Nat) {L L' : Nm → Bool} : ∀ (l : Nl α), (∀ p ∈ l, L p.1 = L' p.1) → nsum f L l = nsum f L' l
  | [], _ => rfl
  | p :: l, h => by
    unfold nsum
    rw [h p (by simp), nsum_congr f l (fun q hq => h q (by simp [hq]))]
theorem nsum_none {α : Type} (f : α → Nat) {L : Nm → Bool} : ∀ (l : Nl α), (∀ k, L k = false) → nsum f L l = 0
  | [], _ => rfl
  | p :: l, h => by unfold nsum; rw [h, nsum_none f l h]; rfl
theorem nsum_step {α : Type} (f : α → Nat) (L : Nm → Bool) (k : Nm) (a : α) : ∀ (l : Nl α), (l.Pairwise fun p q => p.1 ≠ q.1) → nget l k = some a → L k = true → nsum f L l = f a + nsum f (fun y => L y && !(y == k)) l
  | [], _, h, _ => by simp [nget] at h
  | p :: l, hp, h, hL => by
    obtain ⟨h1, h2⟩ := List.pairwise_cons.1 hp
    rw [nget_cons] at h
    unfold nsum
    by_cases e : (p.1 == k) = true
    · rw [if_pos e] at h
      injection h with h
      have e' : p.1 = k := by simpa using e
      subst e'
      rw [if_pos hL, h]
      simp only [beq_self_eq_true, Bool.not_true, Bool.and_false, Bool.false_eq_true, ↓reduceIte]
      rw [nsum_congr f (L' := fun y => L y && !(y == p.1)) l (fun q hq => by
        have := h1 q hq
        simp [Ne.symm this])]
      omega
    · rw [if_neg e] at h
      rw [nsum_step f L k a l h2 h hL]
      have : (p.1 == k) = false := by simpa using e
      simp only [this, Bool.not_false, Bool.and_true]
      omega
theorem nsum_all {α : Type} (f : α → Nat) (L : Nm → Bool) : ∀ (l : Nl α), (∀ p ∈ l, L p.1 = true) → nsum f L l = total f l
  | [], _ => rfl
  | p :: l, h => by
    unfold nsum total
    rw [if_pos (h p (by simp)), nsum_all f L l (fun q hq => h q (by simp [hq]))]
    simp [total]
theorem nhas_mem {α : Type} {l : Nl α} {p : Nm × α} (h : p ∈ l) : nhas l p.1 = true := by
  unfold nhas
  rw [List.any_eq_true]
  exact ⟨p, h, by simp⟩

/-- a range over a map from names, under way: what is still to come. -/
def RangeN (P : Program) (kt : TypeId) (w : World) (m r : Nat) (l : Nl Value) (L : Nm → Bool) (cnt : Nat) : Prop := ∃ (n : Nat) (left : Lit → Bool), w.ranges P kt HR m r n (.map (kd l)) left cnt ∧ ∀ k : Nm, left (.string k) = L k
theorem RangeN.kept {P : Program} {kt : TypeId} {w w' : World} {m r : Nat} {l : Nl Value} {L : Nm → Bool} {cnt : Nat} {row : Option Nat} (h : RangeN P kt w m r l L cnt) (hg : w.grownBy w' row) (h1 : some m ≠ row) (h2 : some r ≠ row) : RangeN P kt w' m r l L cnt := by
  obtain ⟨n, left, h3, h4⟩ := h
  exact ⟨n, left, h3.kept hg h1 h2, h4⟩
theorem RangeN.left_eq {P : Program} {kt : TypeId} {w : World} {m r : Nat} {l : Nl Value} {L : Nm → Bool} {cnt : Nat} (h : RangeN P kt w m r l L cnt) : w.rangeLeft m r = cnt := by
  obtain ⟨n, left, h3, h4⟩ := h
  exact h3.left_eq
theorem RangeN.ne {P : Program} {kt : TypeId} {w : World} {m r : Nat} {l : Nl Value} {L : Nm → Bool} {cnt : Nat} (h : RangeN P kt w m r l L cnt) : r ≠ m := by
  obtain ⟨n, left, h3, h4⟩ := h
  exact h3.ne
theorem RangeN.lt {P : Program} {kt : TypeId} {w : World} {m r : Nat} {l : Nl Value} {L : Nm → Bool} {cnt : Nat} (h : RangeN P kt w m r l L cnt) : r < w.heap.size := by
  obtain ⟨n, left, h3, h4⟩ := h
  exact h3.lt
theorem wpList_rangeN {P : Program} {kt t e : TypeId} {w : World} {ops : Array Oper} {rest : List Oper} {o : Oper} {a : Act} {Q : Exit → Act → World → Prop} {m : Nat} {l : Nl Value} (h : MapN P kt w m l) (hk : P.underlying kt = some .string) (ht : P.underlying t = some (.map kt e))
    (hg : o.guard = none) (x : Operand) (hop : o.op = Op.range t x) (hm : a.eval x = .map (some m))
    (hK : ∀ w', RangeN P kt w' m w.heap.size l (nhas l) l.length → w.grownBy w' none → w'.heap.size = w.heap.size + 1 → wpList P ops Q rest (a.put o.dst (.pointer (some ⟨w.heap.size, 0, none⟩))) w') :
    wpList P ops Q (o :: rest) a w := by
  refine wpList_range_own w hg x t hop kt e (Maps.string_keyed hk) ht HR m l.length (.map (kd l)) hm h ?_
  intro w' h3 h4 h5
  rw [kd_size] at h3
  exact hK w' ⟨_, _, h3, fun k => by rw [kd_has, nhas_get]⟩ h4 h5
theorem wpList_nextN {P : Program} {kt : TypeId} {w : World} {ops : Array Oper} {rest : List Oper} {o : Oper} {a : Act} {Q : Exit → Act → World → Prop} {m r : Nat} {l : Nl Value} {L : Nm → Bool} {cnt : Nat} (h : RangeN P kt w m r l L cnt) (hk : P.underlying kt = some .string)
    (hg : o.guard = none) (it : Operand) (hop : o.op = Op.next it false) (hit : a.eval it = .pointer (some ⟨r, 0, none⟩))
    (hDone : cnt = 0 → (∀ k, L k = false) → wpList P ops Q rest (a.put o.dst (.tuple #[.bool false])) w)
    (hMore : ∀ (k : Nm) (v : Value) (w' : World) (cnt' : Nat), L k = true → nget l k = some v → RangeN P kt w' m r l (fun y => L y && !(y == k)) cnt' → cnt' < cnt →
      w.grownBy w' (some r) → w'.heap.size = w.heap.size → (Instr.entry (.pointer (some ⟨r, 0, none⟩))).run P w' = .ok (.tuple #[encStr k, v]) w' → wpList P ops Q rest (a.put o.dst (.tuple #[.bool true, encStr k, v])) w') :
    wpList P ops Q (o :: rest) a w := by
  obtain ⟨n, left, h1, h2⟩ := h
  refine wpList_next_ranges w hg it hop kt (Maps.string_keyed hk) HR encStr (fun v : Value => v) (fun key kl hkey => by obtain ⟨x, hx, _⟩ := Maps.keyOf_str hk hkey; exact ⟨x, hx⟩) (fun v y hv => ⟨v, rfl⟩) m r n _ left cnt hit h1 (fun h0 hl => hDone h0 fun k => by rw [← h2 k]; exact hl _) ?_
  intro x c kl y w' cnt' hkey hlk hv hat hrg hlt hgr hsz hen
  obtain ⟨x', ex, rfl, hwx⟩ := Maps.keyOf_str hk hkey
  have ex := encStr_inj ex
  subst ex
  have hy : y = (.held c, []) := by unfold HR at hv; injection hv with hv; exact hv.symm
  subst hy
  refine hMore x c w' cnt' (by rw [← h2 x]; exact hlk) ?_ ⟨n, _, hrg, fun z => ?_⟩ hlt hgr hsz hen
  · have e1 := hat (.held (.bool true))
    have e2 := hat (.held (.bool false))
    rw [kd_at] at e1 e2
    cases hn : nget l x with
    | none =>
      rw [hn] at e1 e2
      simp only [Option.getD_none] at e1 e2
      injection e1 with e1
      injection e2 with e2
      rw [← e1] at e2; cases e2
    | some v =>
      rw [hn] at e1
      simp only [Option.getD_some] at e1
      injection e1 with e1
      rw [e1]
  · show (left (.string z) && !(Lit.string z).sameKey (.string x)) = _
    rw [h2 z, same_string]



theorem names_kd (l : Nl Value) : strKeys (.map (kd l)) = names l := by
  show (List.map (fun q => (Lit.string q.1, DataW.held q.2)) l).map (fun p => strOf p.1) = _
  rw [List.map_map]
  rfl
end Go.Proofs.YtegekaocbalndaaGreatDoor
end

section
set_option linter.unusedSimpArgs false
set_option linter.unusedVariables false
namespace Go.Proofs.YtegekaocbalndaaGreatDoor
open Go.RowKit

set_option maxRecDepth 100000 in
set_option maxHeartbeats 2000000 in
theorem used_at {w : World} {p m : Nat} {d : Dk} (h : DiskAt w p m d) : Calls Tryz.prog 14 #[.pointer (some ⟨p, 0, none⟩)] w fun e w' => e = .returned (.int .i64 (d.used : Int)) ∧ Below w.heap.size w w' := by
  obtain ⟨vs, hm, ha⟩ := h.files
  have HM := Lib.hid hm; have HA := Lib.hid ha; have HN := Lib.hid h.ok.rising.nodup
  have HU : Hid (d.used ≤ 67108864) := Lib.hid (Nat.le_trans h.ok.used h.ok.size)
  have H0 := Lib.hid (none_at h)
  have c1 := cell_blk h.own 1
  simp only [List.getElem?_toArray, List.getElem?_cons_succ, List.getElem?_cons_zero] at c1
  clear h hm ha
  go_enter Tryz.func14, Tryz.ntmps14
  go_wp2_with fail
  refine H0.out.mono ?_
  rintro e w1 ⟨rfl, rfl⟩
  go_wp2_with (at_range; refine wpList_rangeN HM.out Tryz.underlying9 Tryz.underlying51 rfl _ rfl rfl ?_; intro w3 h4 h5 h6; have HR := Lib.hid h4; have HG := Lib.hid h5; clear h4 h5 h6)
  have hmr : m < w1.heap.size := HM.out.lt
  have HB0 : Hid (Below w1.heap.size w1 w3) := Lib.hid ⟨HG.out.os, HG.out.tape, HG.out.output, HG.out.size, fun k hk => HG.out.block k hk (by simp)⟩
  have hs0 : nsum flen (nhas vs) d.fs = d.used := nsum_all flen _ _ fun q hq => by
    have h1 := (HA.out.get q.1)
    have h2 := nhas_mem hq
    rw [nhas_get] at h2 ⊢
    rcases h1 with ⟨e1, e2⟩ | ⟨a, b, e1, e2, _⟩
    · rw [e2] at h2; cases h2
    · rw [e1]; rfl
  have HS0 := Lib.hid hs0
  clear hs0
  generalize hr : w1.heap.size = r at *
  go_frame
  go_loopw [3, 5] (fun nv _ wk => ∃ (L : Nm → Bool) (cnt s : Nat), nv = .int .i64 s ∧ RangeN Tryz.prog 9 wk m r vs L cnt ∧ s + nsum flen L d.fs = d.used ∧ Below r w1 wk) (fun _ _ wk => wk.rangeLeft m r)
  case atStart => exact ⟨_, _, 0, rfl, HR.out, by rw [HS0.out]; omega, HB0.out⟩
  case round =>
    obtain ⟨L, cnt, s, rfl, hR, hsum, hb⟩ := hrel
    have HR4 := Lib.hid hR; have HSM := Lib.hid hsum; have HB := Lib.hid hb
    clear hR hsum hb
    go_wp2_with (at_next; refine wpList_nextN HR4.out Tryz.underlying9 rfl _ rfl rfl ?_ ?_)
    · intro h0 hl0
      have hs : s = d.used := by have := HSM.out; rw [nsum_none flen _ hl0] at this; omega
      have HS := Lib.hid hs
      clear hl0 hs
      go_wp2_with fail
      go_ret
      exact ⟨by rw [← HS.out]; rfl, by rw [hr]; exact HB.out⟩
    · intro k v w5 cn5 hLk hget hR5 hlt5 hg5 hsz5 hen
      have h1 : ∃ f, nget d.fs k = some f ∧ FileV w1 v f := by
        rcases HA.out.get k with ⟨e1, e2⟩ | ⟨a, b, e1, e2, e3⟩
        · rw [hget] at e1; cases e1
        · rw [hget] at e1; injection e1 with e1; subst e1; exact ⟨b, e2, e3⟩
      obtain ⟨f, hf, A, cap, rfl, _, _, _, hfl, _⟩ := h1
      have HSM2 : Hid (s + f.b.length + nsum flen (fun y => L y && !(y == k)) d.fs = d.used) := Lib.hid (by
        have h2 := nsum_step flen L k f d.fs HN.out hf hLk
        have h3 := HSM.out
        have h4 : flen f = f.b.length := rfl
        omega)
      have hsb : s + f.b.length ≤ 67108864 := by have := HSM2.out; have := HU.out; omega
      have HR5 := Lib.hid hR5
      have HB5 : Hid (Below r w1 w5) := Lib.hid (HB.out.trans ⟨hg5.os, hg5.tape, hg5.output, by have := hg5.size; have := HB.out.size; omega, fun k' hk' => hg5.block k' (by have := HB.out.size; omega) (by intro e; injection e with e; omega)⟩)
      clear hR5 hg5 hsz5 hget hLk hf
      go_wp2_with fail
      go_roundw
      case rel =>
        have hb1 := below_alloc w5 (.cells #[.slice A f.b.length cap, .int .i64 f.safe, .bool f.kept] 78)
        exact ⟨_, cn5, s + f.b.length, by go_num, HR5.out.kept (row := none) ⟨hb1.os, hb1.tape, hb1.output, hb1.size, fun k' h1 _ => hb1.block k' h1⟩ (by simp) (by simp), HSM2.out, HB5.out.trans (hb1.mono (by have := HB5.out.size; omega))⟩
      case measure =>
        have hb1 := below_alloc w5 (.cells #[.slice A f.b.length cap, .int .i64 f.safe, .bool f.kept] 78)
        rw [(HR5.out.kept (row := none) ⟨hb1.os, hb1.tape, hb1.output, hb1.size, fun k' h1 _ => hb1.block k' h1⟩ (by simp) (by simp)).left_eq, HR4.out.left_eq]; exact hlt5
end Go.Proofs.YtegekaocbalndaaGreatDoor
end
