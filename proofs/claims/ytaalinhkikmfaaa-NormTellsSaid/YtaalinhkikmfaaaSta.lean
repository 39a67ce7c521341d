/- rows whose spare cells hold the zero (DiskFull writes over the spare cells of what it is told). -/
import Derived.Test.YtaalinhkikmfaaaMg1
import Derived.OwnWalkIn
set_option linter.unusedSimpArgs false
set_option linter.unusedVariables false
namespace Go.Proofs.Ytaalinhkikmfaaa
open Go.RowKit

/-- the spare cells of v's own block, behind the first n, hold z. -/
def Spare (z : Value) (n : Nat) (v : Value) (w : World) : Prop := ∀ g, v.ownBlock = some g → ∃ cur e m, w.heap[g]? = some (.cells cur e m) ∧ ∀ x ∈ cur.toList.drop n, x = z
theorem Spare.kept {z : Value} {n : Nat} {v : Value} {w w' : World} {row : Option Nat} (h : Spare z n v w) (hg : w.grownBy w' row) (hne : v.ownBlock = none ∨ v.ownBlock ≠ row) : Spare z n v w' := fun g hv => by
  obtain ⟨cur, e, m, hc, hp⟩ := h g hv
  refine ⟨cur, e, m, (hg.block g (Array.getElem?_eq_some_iff.1 hc).1 ?_).trans hc, hp⟩
  rcases hne with h | h
  · rw [h] at hv; cases hv
  · rw [← hv]; exact h
theorem Spare.nil (z : Value) (n : Nat) (w : World) : Spare z n (.slice none 0 0) w := fun g h => by simp [Value.ownBlock] at h
theorem mem_zeroCells {z : Value} {n : Nat} {x : Value} (h : x ∈ (Builtin.zeroCells #[z] n).toList) : x = z := by
  unfold Builtin.zeroCells at h
  simp only [Array.toList_map, List.mem_map] at h
  obtain ⟨i, _, rfl⟩ := h
  simp [Nat.mod_one]
theorem run_append_spare {P : Program} {t e : TypeId} {z : Value} {bytes : Nat} (E : El P t e z bytes) (w : World) (base : Nat) (ty : TypeId)
    (v : Value) (n : Nat) (xs : List Value) (hown : w.ownsRow base e 1 v n xs) (hw : Spare z n v w)
    (a : Addr) (m c : Nat) (news : List Value) (hl : news.length = m) (hnews : ∀ j u, news[j]? = some u → w.cell? (a.add j) = some u) (h1 : ∀ u ∈ news, u.oneCell' = true)
    (h63 : n + m ≤ 1000000000000) (hbytes : bytes ≤ 100) (hbase : base ≤ w.heap.size) :
    ∃ v' w', (Builtin.append_ #[t, t] ty #[v, .slice (some a) m c]).run P w = .ok v' w' ∧ w'.ownsRow base e 1 v' (n + m) (xs ++ news) ∧ w.grownBy w' v.ownBlock ∧ (v' = .slice none 0 0 ↔ v = .slice none 0 0 ∧ m = 0) ∧ Spare z (n + m) v' w' := by
  obtain ⟨i, hi, hz, hs1, hb1⟩ := info_parts E.hi
  have hb : (n + m) * bytes ≤ 140737488355328 := Nat.le_trans (Nat.mul_le_mul h63 hbytes) (by omega)
  have hmx : n + m ≤ maxLen := by simp only [maxLen]; omega
  obtain ⟨v', w', hr, h2, h3, h4⟩ := run_append_own (P := P) w base t ty e i z 1 bytes E.ht hi hz hs1 hb1 (by rw [E.hz]; rfl) (by omega) v n xs hown a m c news (by omega) hnews h1 hmx hb hbase
  refine ⟨v', w', hr, h2, h3, h4, ?_⟩
  rcases hown.2 with ⟨rfl, rfl⟩ | ⟨g, cap, cur, rfl, hbg, hg, hnc, hcm, hcs, htake⟩
  · rcases Nat.eq_zero_or_pos m with h0 | h0
    · obtain rfl := h4.2 ⟨rfl, h0⟩
      exact Spare.nil _ _ _
    · have hr' := run_append_nil (P := P) w t ty e i z E.ht hi hz a m c news (by rw [hs1]; omega) hnews h0 (by omega) (by rw [hb1]; have := hb; simp only [Nat.zero_add] at this; omega)
      rw [hr] at hr'
      injection hr' with e1 e2
      subst e1; subst e2
      intro g hv
      obtain rfl : w.heap.size = g := by simpa [Value.ownBlock] using hv
      refine ⟨_, _, _, heap_alloc_new w.drew _, fun x hx => ?_⟩
      simp only [Array.toList_append, Nat.zero_add] at hx
      rw [List.drop_left' hl, E.hz] at hx
      exact mem_zeroCells hx
  · obtain ⟨cur', e', m', hc', hp'⟩ := hw g rfl
    rw [hg] at hc'
    cases hc'
    by_cases hroom : n + m ≤ cap
    · have hfit : n * i.size + news.length ≤ cur.size := by rw [hl, hcs, hs1]; omega
      have hr' := run_append_room (P := P) w t ty e i E.ht hi g n cap cur hg a m c news (by rw [hs1]; omega) hnews h1 hroom hfit
      rw [hr] at hr'
      injection hr' with e1 e2
      subst e1; subst e2
      intro g' hv
      obtain rfl : g = g' := by simpa [Value.ownBlock] using hv
      refine ⟨_, _, _, setRow_heap w g cur _ e _ hg, fun x hx => ?_⟩
      have e1 : (cur.toList.take (n * i.size) ++ news).length = n + m := by
        rw [List.length_append, List.length_take, hl, hs1, Array.length_toList, hcs]; omega
      simp only at hx
      rw [List.drop_left' e1, hs1, hl] at hx
      refine hp' x ?_
      rw [show n * 1 + m = n + m by omega, ← List.drop_drop] at hx
      exact List.mem_of_mem_drop hx
    · have holds : ∀ j u, xs[j]? = some u → w.cell? ((⟨g, 0, none⟩ : Addr).add j) = some u := hown.cells (g := g) rfl
      have hr' := run_append_grow (P := P) w t ty e i z E.ht hi hz ⟨g, 0, none⟩ n cap xs (by rw [hs1]; exact hown.1) holds a m c news (by rw [hs1]; omega) hnews (by omega) (by omega) (growslice_fits (by omega) (by rw [hb1]; exact hb))
      rw [hr] at hr'
      injection hr' with e1 e2
      subst e1; subst e2
      intro g' hv
      obtain rfl : w.heap.size = g' := by simpa [Value.ownBlock] using hv
      refine ⟨_, _, _, heap_alloc_new w.drew _, fun x hx => ?_⟩
      have e1 : (xs ++ news).length = n + m := by rw [List.length_append, hown.1, hl]; omega
      simp only [Array.toList_append] at hx
      rw [List.drop_left' e1, E.hz] at hx
      exact mem_zeroCells hx

theorem wpListIn_append_spare {F : Fence} {k0 : Nat} {P : Program} {t e : TypeId} {z : Value} {bytes : Nat} (E : El P t e z bytes) (w : World) {ops : Array Oper} {rest : List Oper} {o : Oper} {a : Act} {Q : Exit → Act → World → Prop}
    (hg : o.guard = none) (s x : Operand) (hop : o.op = Op.call { callee := Callee.builtin Builtin.append, args := #[s, x], argTypes := #[t, t] })
    (base : Nat) (v : Value) (k : Nat) (xs : List Value) (hs : a.eval s = v) (hown : w.ownsRow base e 1 v k xs) (hw : Spare z k v w) (ad : Addr) (m c : Nat) (news : List Value) (hx : a.eval x = .slice (some ad) m c) (hn : news.length = m)
    (hc : ∀ j u, news[j]? = some u → w.cell? (ad.add j) = some u) (h1c : ∀ u ∈ news, u.oneCell' = true) (b1 : k + m ≤ 1000000000000) (b2 : bytes ≤ 100) (b3 : base ≤ w.heap.size)
    (hK : ∀ v' w', w'.ownsRow base e 1 v' (k + m) (xs ++ news) → w.grownBy w' v.ownBlock → Spare z (k + m) v' w' → wpListIn F k0 P ops Q rest (a.put o.dst v') w') :
    wpListIn F k0 P ops Q (o :: rest) a w := by
  refine wpListIn_plain hg fun K hK' => ?_
  obtain ⟨v', w', hrun, r1, r2, _, r3⟩ := run_append_spare (P := P) E w base o.type v k xs hown hw ad m c news hn hc h1c b1 b2 b3
  unfold Oper.wpIn
  refine ⟨?_, ?_⟩
  · simp [Oper.about, hop, resolve, Target.leads, Sem.run_pure]
  · rw [Oper.semAt_plain F _ _ (by rw [hop]; intro c hc'; cases hc')]
    simp [execOp, hop, resolve, invoke, builtin, hs, hx, hrun, Result.andThen]
    exact hK' _ _ (hK v' w' r1 r2 r3)
end Go.Proofs.Ytaalinhkikmfaaa
