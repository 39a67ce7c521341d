/- several texts in one: StoreCrash: states of the law: snapshots, rows of records; behind, same., StoreCrash: assizelaw22.reopens., StoreCrash: where the loop stands., StoreCrash (printed by gen_crash22.py)., StoreCrash: any steps, reserve, stops, what is kept. -/
import Derived.Test.YtegekaocbalndaaGreatDoorMg13
import Derived.Test.YtegekaocbalndaaGreatDoorKg
import Derived.Test.YtegekaocbalndaaGreatDoorSm
import Derived.Test.YtegekaocbalndaaGreatDoorNw
import Derived.Test.YtegekaocbalndaaGreatDoorMg12
import Derived.Test.YtegekaocbalndaaGreatDoorMg20
import Derived.Test.YtegekaocbalndaaGreatDoorMg16
import Derived.Test.YtegekaocbalndaaGreatDoorIz
import Derived.Test.YtegekaocbalndaaGreatDoorBo
import Derived.Test.YtegekaocbalndaaGreatDoorMg14
section
set_option linter.unusedSimpArgs false
set_option linter.unusedVariables false
namespace Go.Proofs.YtegekaocbalndaaGreatDoor
open Go.RowKit

theorem own_ne {w : World} {B n k : Nat} {e T : TypeId} {v : Value} {xs : List Value} {cs : Array Value} (h : w.ownsRow B e 1 v n xs) (hk : w.heap[k]? = some (.cells cs T (0, 0))) (hT : T ≠ e) : v.ownBlock ≠ some k := by
  rcases h.2 with ⟨rfl, _⟩ | ⟨g, cap, cur, rfl, _, hg, _⟩
  · intro h; cases h
  · intro h
    injection h with h
    have h' : g = k := h
    subst h'
    rw [hg] at hk
    injection hk with hk
    injection hk with _ h2 _
    exact hT h2.symm
theorem own_nomap {w : World} {B n k : Nat} {e : TypeId} {v : Value} {xs : List Value} {vs : Nl Value} (h : w.ownsRow B e 1 v n xs) (hk : MapN Tryz.prog 9 w k vs) : v.ownBlock ≠ some k := by
  obtain ⟨es, c, h1, _⟩ := hk
  rcases h.2 with ⟨rfl, _⟩ | ⟨g, cap, cur, rfl, _, hg, _⟩
  · intro h; cases h
  · intro h
    injection h with h
    have h' : g = k := h
    subst h'
    rw [hg] at h1
    cases h1
theorem own_bw {w w' : World} {B n : Nat} {e : TypeId} {v : Value} {xs : List Value} {S : List Nat} (h : w.ownsRow B e 1 v n xs) (hb : Bw w w' S) (hS : ∀ k ∈ S, v.ownBlock ≠ some k) : w'.ownsRow B e 1 v n xs := by
  refine ⟨h.1, ?_⟩
  rcases h.2 with h2 | ⟨g, cap, cur, rfl, h2, hg, h3⟩
  · exact .inl h2
  · exact .inr ⟨g, cap, cur, rfl, h2, (hb.block g (lt_blk hg) (fun hm => hS g hm rfl)).trans hg, h3⟩
theorem ES46 : ElS Tryz.prog 31 30 (.slice none 0 0) 1 24 := ⟨Tryz.underlying31, by kernel_rfl, rfl, by decide⟩
theorem own_less {w : World} {b b' e sz n : Nat} {v : Value} {xs : List Value} (h : w.ownsRow b e sz v n xs) (hb : b' ≤ b) : w.ownsRow b' e sz v n xs :=
  ⟨h.1, h.2.imp_right fun ⟨g, k, cur, x1, x2, x3⟩ => ⟨g, k, cur, x1, Nat.le_trans hb x2, x3⟩⟩
/-- records that came in, in a row of the law's own. -/
def SRow (w0 w : World) (B : Nat) (v : Value) (S : List (List UInt8)) : Prop := ∃ vs, w.ownsRow B 30 1 v S.length vs ∧ ∀ j, j < S.length → ∃ A c, vs[j]? = some (.slice A (S.getD j []).length c) ∧ Bs w0 w0.heap.size A (S.getD j []) ∧ (A = none → S.getD j [] = [])
theorem SRow.nil (w0 w : World) (B : Nat) : SRow w0 w B (.slice none 0 0) [] := ⟨[], World.ownsRow_nil _ _ _ _, fun j hj => absurd hj (by simp)⟩
theorem SRow.below {w0 w w' : World} {B : Nat} {v : Value} {S : List (List UInt8)} (h : SRow w0 w B v S) (hb : Below w.heap.size w w') : SRow w0 w' B v S := by
  obtain ⟨vs, h1, h2⟩ := h
  exact ⟨vs, own_below h1 hb, h2⟩
theorem SRow.bw {w0 w w' : World} {B : Nat} {v : Value} {S : List (List UInt8)} {K : List Nat} (h : SRow w0 w B v S) (hb : Bw w w' K) (hK : ∀ k ∈ K, v.ownBlock ≠ some k) : SRow w0 w' B v S := by
  obtain ⟨vs, h1, h2⟩ := h
  exact ⟨vs, own_bw h1 hb hK, h2⟩
theorem SRow.ne {w0 w : World} {B k : Nat} {T : TypeId} {v : Value} {S : List (List UInt8)} {cs : Array Value} (h : SRow w0 w B v S) (hk : w.heap[k]? = some (.cells cs T (0, 0))) (hT : T ≠ 30) : v.ownBlock ≠ some k := by
  obtain ⟨vs, h1, h2⟩ := h
  exact own_ne h1 hk hT
theorem SRow.nomap {w0 w : World} {B k : Nat} {v : Value} {S : List (List UInt8)} {vs : Nl Value} (h : SRow w0 w B v S) (hk : MapN Tryz.prog 9 w k vs) : v.ownBlock ≠ some k := by
  obtain ⟨_, h1, _⟩ := h
  exact own_nomap h1 hk
theorem SRow.apart {w0 w : World} {B p m : Nat} {d : Dk} {v : Value} {S : List (List UInt8)} (h : SRow w0 w B v S) (hd : DiskAt w p m d) : ∀ k ∈ [p, m], v.ownBlock ≠ some k := by
  intro k hk
  simp only [List.mem_cons, List.not_mem_nil, or_false] at hk
  rcases hk with rfl | rfl
  · exact h.ne hd.own (by decide)
  · obtain ⟨vs, h1, _⟩ := hd.files
    exact h.nomap h1
theorem SRow.apart3 {w0 w : World} {B p m q : Nat} {d : Dk} {L : Lg} {v : Value} {S : List (List UInt8)} (h : SRow w0 w B v S) (hd : DiskAt w p m d) (hl : LogAt w q p L) : ∀ k ∈ [p, m, q], v.ownBlock ≠ some k := by
  intro k hk
  by_cases hq : k = q
  · subst hq; exact h.ne hl (by decide)
  · exact h.apart hd k (by simp at hk ⊢; omega)
theorem SRow.lt {w0 w : World} {B : Nat} {v : Value} {S : List (List UInt8)} (h : SRow w0 w B v S) : ∀ k, v.ownBlock = some k → B ≤ k ∧ k < w.heap.size := by
  obtain ⟨vs, h1, h2⟩ := h
  exact h1.lt
theorem SRow.shape {w0 w : World} {B : Nat} {v : Value} {S : List (List UInt8)} (h : SRow w0 w B v S) : ∃ A c, v = .slice A S.length c := by
  obtain ⟨vs, h1, h2⟩ := h
  obtain ⟨A, c, e, _⟩ := own_rd h1
  exact ⟨A, c, e⟩
theorem SRow.ls {w0 w : World} {B n c : Nat} {A : Option Addr} {S : List (List UInt8)} (h : SRow w0 w B (.slice A n c) S) (hb : Below w0.heap.size w0 w) : Ls w w.heap.size A S := by
  obtain ⟨vs, h1, h2⟩ := h
  obtain ⟨A', c', e, hr, _⟩ := own_rd h1
  injection e with e1 e2 e3
  subst e1
  intro j hj
  obtain ⟨Aj, cj, h3, h4, h5⟩ := h2 j hj
  obtain ⟨b, off, e, hbl, hc⟩ := hr j _ h3
  exact ⟨b, off, e, hbl, Aj, cj, hc, (h4.below hb).more hb.size, h5⟩
/-- one record more. -/
theorem SRow.snoc {w0 w : World} {B : Nat} {v' : Value} {S : List (List UInt8)} {vs : List Value} {r : List UInt8} {A : Option Addr} {c : Nat} (hS : ∀ j, j < S.length → ∃ A c, vs[j]? = some (.slice A (S.getD j []).length c) ∧ Bs w0 w0.heap.size A (S.getD j []) ∧ (A = none → S.getD j [] = [])) (hl : vs.length = S.length)
    (ho : w.ownsRow B 30 1 v' (S.length + 1) (vs ++ [.slice A r.length c])) (hb : Bs w0 w0.heap.size A r) (h0 : A = none → r = []) : SRow w0 w B v' (S ++ [r]) := by
  refine ⟨_, by rw [List.length_append, List.length_singleton]; exact ho, fun j hj => ?_⟩
  rw [List.length_append, List.length_singleton] at hj
  by_cases hlt : j < S.length
  · obtain ⟨Aj, cj, h1, h2, h3⟩ := hS j hlt
    have e : (S ++ [r]).getD j [] = S.getD j [] := by simp [List.getD_eq_getElem?_getD, List.getElem?_append_left hlt]
    rw [e, List.getElem?_append_left (by omega)]
    exact ⟨Aj, cj, h1, h2, h3⟩
  · obtain rfl : j = S.length := by omega
    have e : (S ++ [r]).getD S.length [] = r := by simp [List.getD_eq_getElem?_getD]
    rw [e, List.getElem?_append_right (by omega), hl, Nat.sub_self]
    exact ⟨A, c, rfl, hb, h0⟩
theorem vs_one {w0 : World} {S : List (List UInt8)} {vs : List Value} (hS : ∀ j, j < S.length → ∃ A c, vs[j]? = some (.slice A (S.getD j []).length c) ∧ Bs w0 w0.heap.size A (S.getD j []) ∧ (A = none → S.getD j [] = [])) (hl : vs.length = S.length) : ∀ u ∈ vs, u.oneCell' = true := by
  intro u hu
  obtain ⟨j, hj, rfl⟩ := List.mem_iff_getElem.1 hu
  obtain ⟨A, c, h1, _⟩ := hS j (by omega)
  rw [List.getElem?_eq_getElem hj] at h1
  injection h1 with h1
  rw [h1]
  rfl
/-- an append onto a row: either in place, where the row's block has room, or in a block of its own: blocks of one cell stay. -/
theorem run_append_fine {P : Program} {t e : TypeId} {z : Value} {bytes : Nat} (E : ElS P t e z 1 bytes) (w : World) (base : Nat) (ty : TypeId)
    (g n cap : Nat) (xs : List Value) (hown : w.ownsRow base e 1 (.slice (some ⟨g, 0, none⟩) n cap) n xs) (B : Nat) (A : Option Addr) (news : List Value) (m c : Nat) (hm : news.length = m * 1) (hr : Rd w B A news)
    (hA : A = none → m = 0) (h1 : ∀ u ∈ news, u.oneCell' = true) (h63 : n + m ≤ 1000000000000) (hbytes : bytes ≤ 100) (hbase : base ≤ w.heap.size) (h0 : n = 0 → cap = 0) (hm0 : 0 < m) :
    ∃ v' w', (Builtin.append_ #[t, t] ty #[.slice (some ⟨g, 0, none⟩) n cap, .slice A m c]).run P w = .ok v' w' ∧ w'.ownsRow base e 1 v' (n + m) (xs ++ news) ∧ w.grownBy w' (some g) ∧
      ∀ (k : Nat) (c' : Value) (T : TypeId), w.heap[k]? = some (Obj.cells #[c'] T (0, 0)) → w'.heap[k]? = some (Obj.cells #[c'] T (0, 0)) := by
  obtain ⟨v', w', hrun, h2, h3, h4⟩ := run_append_srcS E w base ty _ n xs hown B A news m c hm hr hA h1 h63 hbytes hbase
  refine ⟨v', w', hrun, h2, h3, fun k c' T hk => ?_⟩
  by_cases hroom : n + m ≤ cap
  · have hkg : k ≠ g := by
      rintro rfl
      rcases hown.2 with ⟨h, _⟩ | ⟨g', cap', cur, e1, hb, hg, hn, hc, hsz, ht⟩
      · cases h
      · injection e1 with e2 e3 e4
        injection e2 with e2
        injection e2 with e2
        subst e2
        have h5 := hk.symm.trans hg
        simp only [Option.some.injEq, Obj.cells.injEq] at h5
        have h6 : cur.size = 1 := by rw [← h5.1]; rfl
        omega
    have hne : (some k : Option Nat) ≠ some g := fun e => hkg (by injection e)
    exact (h3.block k (lt_blk hk) hne).trans hk
  · rcases A with _ | ad
    · have := hA rfl; omega
    obtain ⟨i, hi, hz0, hz1, hz2⟩ := info_parts E.hi
    have hb : (n + m) * bytes ≤ 140737488355328 := Nat.le_trans (Nat.mul_le_mul h63 hbytes) (by omega)
    have hr' := run_append_grow (P := P) w t ty e i z E.ht hi hz0 ⟨g, 0, none⟩ n cap xs (by rw [hz1]; exact hown.1) (hown.cells (g := g) rfl) ad m c news (by rw [hz1]; exact hm) (fun j u hu => by
      obtain ⟨b, off, e, _, hc⟩ := hr j u hu
      injection e with e
      subst e
      have hadd : (⟨b, off, none⟩ : Addr).add j = ⟨b, off + j, none⟩ := by unfold Addr.add; split <;> simp_all
      rw [hadd]; exact hc) (by omega) (by omega) (growslice_fits (by omega) (by rw [hz2]; exact hb))
    rw [hrun] at hr'
    injection hr' with _ h6
    rw [h6]
    exact alloc_blk (w := w.drew) hk _
theorem rel_appFine {P : Program} {t e : TypeId} {z : Value} {bytes : Nat} (E : ElS P t e z 1 bytes) {ops : Array Oper} {o : Oper} {a : Act} {INV : World → Prop} {FR : World → World → Prop} {p : PG} {W : World} (hgd : o.guard = none) (s x : Operand)
    (ho : o.op = .call { callee := .builtin .append, args := #[s, x], argTypes := #[t, t] }) (base g n cap : Nat) (xs : List Value) (hs : a.eval s = .slice (some ⟨g, 0, none⟩) n cap) (hown : W.ownsRow base e 1 (.slice (some ⟨g, 0, none⟩) n cap) n xs) (B : Nat) (A : Option Addr) (news : List Value) (m c : Nat) (hx : a.eval x = .slice A m c) (hm : news.length = m * 1) (hr : Rd W B A news)
    (hA : A = none → m = 0) (h1 : ∀ u ∈ news, u.oneCell' = true) (h63 : n + m ≤ 1000000000000) (hbytes : bytes ≤ 100) (hbase : base ≤ W.heap.size) (h0 : n = 0 → cap = 0) (hm0 : 0 < m)
    (h : ∀ v' w', w'.ownsRow base e 1 v' (n + m) (xs ++ news) → W.grownBy w' (some g) → (∀ (k : Nat) (c' : Value) (T : TypeId), W.heap[k]? = some (Obj.cells #[c'] T (0, 0)) → w'.heap[k]? = some (Obj.cells #[c'] T (0, 0))) → GiveG INV FR p W v' w') : relOpG P INV FR ops o a p W := by
  obtain ⟨v', w', hrun, h2, h3, h4⟩ := run_append_fine E W base o.type g n cap xs hown B A news m c hm hr hA h1 h63 hbytes hbase h0 hm0
  refine rel_valG (v := v') (W' := w') (by simp [Region.wanted, hgd]) ?_ (h v' w' h2 h3 h4)
  unfold execOp
  simp only [ho, resolve, invoke, builtin, Sem.run_bind, Sem.run_pure, Result.andThen_ok, List.map_toArray, List.map_cons, List.map_nil, hs, hx, hrun]
/-- 'append([]T{}, x...)': a row of its own; of nothing, the empty one. -/
theorem rel_app0 {P : Program} {t e : TypeId} {z : Value} {bytes : Nat} (E : ElS P t e z 1 bytes) {ops : Array Oper} {o : Oper} {a : Act} {INV : World → Prop} {FR : World → World → Prop} {p : PG} {W : World} (hgd : o.guard = none) (s x : Operand)
    (ho : o.op = .call { callee := .builtin .append, args := #[s, x], argTypes := #[t, t] }) (base g : Nat) (hg : base ≤ g) (hb : W.heap[g]? = some (.cells #[] e (0, 0))) (hs : a.eval s = .slice (some ⟨g, 0, none⟩) 0 0) (B : Nat) (A : Option Addr) (news : List Value) (m c : Nat) (hx : a.eval x = .slice A m c) (hm : news.length = m * 1) (hr : Rd W B A news)
    (hA : A = none → m = 0) (h1 : ∀ u ∈ news, u.oneCell' = true) (h63 : m ≤ 1000000000000) (hbytes : bytes ≤ 100) (hbase : base ≤ W.heap.size)
    (h : ∀ g' cap w', w'.ownsRow base e 1 (.slice (some ⟨g', 0, none⟩) m cap) m news → (m = 0 → cap = 0) → Below W.heap.size W w' → GiveG INV FR p W (.slice (some ⟨g', 0, none⟩) m cap) w') : relOpG P INV FR ops o a p W := by
  rcases Nat.eq_zero_or_pos m with h0 | h0
  · subst h0
    obtain rfl := List.eq_nil_of_length_eq_zero (by simpa using hm)
    have hrun := run_append_zero E W o.type ⟨g, 0, none⟩ A c
    refine rel_valG (v := .slice (some ⟨g, 0, none⟩) 0 0) (W' := W) (by simp [Region.wanted, hgd]) ?_ (h g 0 W ⟨by simp, .inr ⟨g, 0, #[], rfl, hg, hb, Nat.le_refl _, by decide, by simp, by simp⟩⟩ (fun _ => rfl) (Below.refl _ _))
    unfold execOp
    simp only [ho, resolve, invoke, builtin, Sem.run_bind, Sem.run_pure, Result.andThen_ok, List.map_toArray, List.map_cons, List.map_nil, hs, hx, hrun]
  · obtain ⟨v', w', hrun, h2, h3, h4⟩ := run_append_srcS E W base o.type (.slice none 0 0) 0 [] (World.ownsRow_nil _ _ _ _) B A news m c hm hr hA h1 (by omega) hbytes hbase
    rw [← run_append_empty E W o.type ⟨g, 0, none⟩ A m c h0 h63 hbytes] at hrun
    rw [Nat.zero_add, List.nil_append] at h2
    have h2' := h2
    rcases h2'.2 with ⟨_, e1⟩ | ⟨g', cap, cur, rfl, _⟩
    · omega
    · refine rel_valG (v := .slice (some ⟨g', 0, none⟩) m cap) (W' := w') (by simp [Region.wanted, hgd]) ?_ (h g' cap w' h2 (fun e => by omega) ⟨h3.os, h3.tape, h3.output, h3.size, fun k hk => h3.block k hk (by simp [Value.ownBlock])⟩)
      unfold execOp
      simp only [ho, resolve, invoke, builtin, Sem.run_bind, Sem.run_pure, Result.andThen_ok, List.map_toArray, List.map_cons, List.map_nil, hs, hx, hrun]
/-- blocks of one cell stay. -/
def OneK (W W' : World) : Prop := ∀ (k : Nat) (c : Value) (T : TypeId), W.heap[k]? = some (Obj.cells #[c] T (0, 0)) → W'.heap[k]? = some (Obj.cells #[c] T (0, 0))
theorem OneK.below {W W' : World} (h : Below W.heap.size W W') : OneK W W' := fun k c T hk => (h.block k (lt_blk hk)).trans hk
theorem newR_one {B : Nat} {T : TypeId} {x : Value} : KeepsF OneK (NewR B T #[x] 1) := fun v w w' ⟨g, h1, h2, h3⟩ hb => ⟨g, h1, h2, hb g x T h3⟩
/-- a snapshot that came in. -/
def SnV (w0 : World) (v : Value) (s : List UInt8) : Prop := ∃ A c, v = .slice A s.length c ∧ Bs w0 w0.heap.size A s ∧ (A = none → s = [])
theorem SnV.nil (w0 : World) : SnV w0 (.slice none 0 0) [] := ⟨none, 0, rfl, Bs.nil _ _ _, fun _ => rfl⟩
/-- a state: its two values. -/
def StV2 (w0 w : World) (u r : Value) (s : List UInt8) (S : List (List UInt8)) : Prop := SnV w0 u s ∧ SRow w0 w w0.heap.size r S
def BehP (w0 w : World) (s : List UInt8) (S : List (List UInt8)) (e : Ending) (w' : World) : Prop := Below w.heap.size w w' ∧ ∃ u r, e = .returned (.agg #[u, r]) ∧ StV2 w0 w' u r s S
set_option maxRecDepth 100000 in
set_option maxHeartbeats 4000000 in
theorem behind_compact {w0 w : World} (hb : Below w0.heap.size w0 w) (u r : Value) (hu : ∃ A n c, u = .slice A n c) (hr : ∃ A n c, r = .slice A n c) (x : List UInt8) (n : Nat) (hn : n = x.length) (C : Option Addr) (capC : Nat) (hC : Bs w0 w0.heap.size C x) (hC0 : C = none → x = []) :
    Calls Tryz.prog 13 #[.agg #[u, r], .bool true, .slice C n capC] w (BehP w0 w x []) := by
  have HR : Hid (SnV w0 (.slice C n capC) x) := Lib.hid ⟨C, capC, by rw [hn], hC, hC0⟩
  have HB := Lib.hid hb
  obtain ⟨A1, n1, c1, rfl⟩ := hu
  obtain ⟨A2, n2, c2, rfl⟩ := hr
  clear hn hC hC0 hb
  go_enter Tryz.func13, Tryz.ntmps13
  go_wp2_with fail
  obtain ⟨b0_, b1_, hb_⟩ := boxes2 w (.cells #[.slice A1 n1 c1, .slice A2 n2 c2] 36) (.cells #[.slice C n capC, .slice none 0 0] 36)
  generalize (w.alloc (.cells #[.slice A1 n1 c1, .slice A2 n2 c2] 36)).alloc (.cells #[.slice C n capC, .slice none 0 0] 36) = w2 at *
  have T1 : Hid (∀ W, Below w2.heap.size w2 W → W.cell? ⟨w.heap.size, 0, none⟩ = some (.slice A1 n1 c1) ∧ W.cell? ⟨w.heap.size, 1, none⟩ = some (.slice A2 n2 c2)) := Lib.hid (fun W hW => by have e := (hW.block _ (lt_blk b0_)).trans b0_; exact ⟨by rw [cell_blk e]; rfl, by rw [cell_blk e]; rfl⟩)
  have T2b : Hid (∀ W, Below w2.heap.size w2 W → W.heap[w.heap.size + 1]? = some (.cells #[.slice C n capC, .slice none 0 0] 36 (0, 0))) := Lib.hid (fun W hW => (hW.block _ (lt_blk b1_)).trans b1_)
  have T2 : Hid (∀ W, Below w2.heap.size w2 W → W.cell? ⟨w.heap.size + 1, 0, none⟩ = some (.slice C n capC) ∧ W.cell? ⟨w.heap.size + 1, 1, none⟩ = some (.slice none 0 0)) := Lib.hid (fun W hW => by have e := (hW.block _ (lt_blk b1_)).trans b1_; exact ⟨by rw [cell_blk e]; rfl, by rw [cell_blk e]; rfl⟩)
  have HB2 := Lib.hid hb_
  clear hb_ b0_ b1_
  refine bodyPost_ret (results_cell_row rfl _ _ (w.heap.size + 1) 36 #[.slice C n capC, .slice none 0 0] (0, 0) _ rfl (T2b.out w2 (Below.refl _ _)) Tryz.underlying36 rfl (by kernel_rfl)) rfl ?_
  exact ⟨HB2.out, _, _, rfl, HR.out, .nil _ _ _⟩
set_option maxRecDepth 100000 in
set_option maxHeartbeats 4000000 in
theorem behind_commit {w0 w : World} (hb : Below w0.heap.size w0 w) (u r : Value) (s : List UInt8) (S : List (List UInt8)) (hst : StV2 w0 w u r s S) (hS : S.length ≤ 1000) (x : List UInt8) (n : Nat) (hn : n = x.length) (C : Option Addr) (capC : Nat) (hC : Bs w0 w0.heap.size C x) (hC0 : C = none → x = []) :
    Calls Tryz.prog 13 #[.agg #[u, r], .bool false, .slice C n capC] w (BehP w0 w s (S ++ [x])) := by
  have HC := Lib.hid hC; have HC0 := Lib.hid hC0; have HN := Lib.hid hn
  have HB := Lib.hid hb
  obtain ⟨hsn, vs, ho, hSv⟩ := hst
  obtain ⟨A1, c1, rfl, hs1, hs2⟩ := hsn
  have HSN : Hid (SnV w0 (.slice A1 s.length c1) s) := Lib.hid ⟨A1, c1, rfl, hs1, hs2⟩
  obtain ⟨A2, c2, rfl, hrd, hr0, hc2⟩ := own_rd ho
  obtain ⟨ns, hns⟩ : ∃ ns, ns = S.length := ⟨_, rfl⟩
  obtain ⟨k1, hk1⟩ : ∃ k, k = s.length := ⟨_, rfl⟩
  rw [← hns] at ho hr0 hc2 hS ⊢
  rw [← hk1] at HSN ⊢
  have HO := Lib.hid ho; have HVS := Lib.hid hSv; have HNS := Lib.hid hns; have HRD := Lib.hid hrd; have HR0 := Lib.hid hr0
  have HVL : Hid (vs.length = ns * 1) := Lib.hid HO.out.1
  have HV1 := Lib.hid (vs_one hSv (by have := ho.1; rw [this, Nat.mul_one, hns]))
  clear hn hC hC0 hb ho hSv hns hrd hr0 hs1 hs2 hk1
  go_enter Tryz.func13, Tryz.ntmps13
  go_upto_region 3 with (fail)
  obtain ⟨b0_, b1_, hb_⟩ := boxes2 w (.cells #[.slice A1 k1 c1, .slice A2 ns c2] 36) (.cells #[.slice none 0 0, .slice none 0 0] 36)
  generalize (w.alloc (.cells #[.slice A1 k1 c1, .slice A2 ns c2] 36)).alloc (.cells #[.slice none 0 0, .slice none 0 0] 36) = w2 at *
  have T1 : Hid (∀ W, Below w2.heap.size w2 W → W.cell? ⟨w.heap.size, 0, none⟩ = some (.slice A1 k1 c1) ∧ W.cell? ⟨w.heap.size, 1, none⟩ = some (.slice A2 ns c2)) := Lib.hid (fun W hW => by have e := (hW.block _ (lt_blk b0_)).trans b0_; exact ⟨by rw [cell_blk e]; rfl, by rw [cell_blk e]; rfl⟩)
  have T2b : Hid (∀ W, Below w2.heap.size w2 W → W.heap[w.heap.size + 1]? = some (.cells #[.slice none 0 0, .slice none 0 0] 36 (0, 0))) := Lib.hid (fun W hW => (hW.block _ (lt_blk b1_)).trans b1_)
  have T2 : Hid (∀ W, Below w2.heap.size w2 W → W.cell? ⟨w.heap.size + 1, 0, none⟩ = some (.slice none 0 0) ∧ W.cell? ⟨w.heap.size + 1, 1, none⟩ = some (.slice none 0 0)) := Lib.hid (fun W hW => by have e := (hW.block _ (lt_blk b1_)).trans b1_; exact ⟨by rw [cell_blk e]; rfl, by rw [cell_blk e]; rfl⟩)
  have HB2 := Lib.hid hb_
  clear hb_ b0_ b1_
  have HRD2 := Lib.hid (HRD.out.below HB2.out)
  have hb2 := HB2.out.size
  have T2' := T2b.out w2 (Below.refl _ _)
  have hw2 : w.heap.size + 1 < w2.heap.size := lt_blk T2'
  clear T2'
  apply wp_region_relG (fun W => Below w2.heap.size w2 W) (fun W => True) (OneK) 9 [(Sum.inl _ : TG), (Sum.inl _ : TG), (Sum.inr (fun _ _ => True, some (fun v W => NewR w2.heap.size 30 #[] 0 v W)) : TG), (Sum.inl _ : TG), (Sum.inl _ : TG), (Sum.inr (fun _ _ => True, some (fun v W => ∃ g cap, v = .slice (some ⟨g, 0, none⟩) ns cap ∧ W.ownsRow w2.heap.size 30 1 v ns vs ∧ (ns = 0 → cap = 0))) : TG), (Sum.inl _ : TG), (Sum.inr (NewR w2.heap.size 30 #[.slice C n capC] 1, none) : TG), (Sum.inr (fun _ _ => True, some (fun v W => W.ownsRow w2.heap.size 30 1 v (ns + 1) (vs ++ [.slice C n capC]))) : TG)] [false, false, true, false, false, true, false, false, true] (by kernel_rfl) (by kernel_rfl) (by kernel_rfl) rfl rfl (fun _ _ h => OneK.below h) (fun _ _ h _ => h) ((Below.refl _ _).drew) (trivial)
  simp only [List.take_succ_cons, List.take_zero, List.drop_succ_cons, List.drop_zero]
  iterate 2 (apply rel_isG; (intro W hW hf; obtain ⟨x1, x2⟩ := T1.out W hW; go_simp; first | exact ⟨⟨hW, Below.refl _ _⟩, rfl⟩ | exact ⟨Below.refl _ _, rfl⟩ | rfl); simp only [Act.put, List.setIfInBounds_toArray, List.set_cons_succ, List.set_cons_zero])
  apply rel_effG
  · intro W hW hS hf
    refine rel_valG (v := .slice (some ⟨W.heap.size, 0, none⟩) 0 0) (W' := W.alloc (.cells #[] 30)) rfl (by go_simp) ?_
    exact ⟨hW.trans ((below_alloc W _).mono hW.size), trivial, OneK.below (below_alloc W _), _, rfl, hW.size, heap_alloc_new _ _⟩
  · exact fun _ _ _ _ _ => trivial
  · exact fun v => NewR.keepsS _ _ _ _ v
  intro v12
  simp only [Act.put, List.setIfInBounds_toArray, List.set_cons_succ, List.set_cons_zero]
  iterate 2 (apply rel_isG; (intro W hW hf; obtain ⟨x1, x2⟩ := T1.out W hW; go_simp; first | exact ⟨⟨hW, Below.refl _ _⟩, rfl⟩ | exact ⟨Below.refl _ _, rfl⟩ | rfl); simp only [Act.put, List.setIfInBounds_toArray, List.set_cons_succ, List.set_cons_zero])
  apply rel_effG
  · intro W hW hS hf
    obtain ⟨g12, rfl, hg12, hx12⟩ := hS
    refine rel_app0 ES46 rfl (.tmp 12) (.tmp 14) rfl w2.heap.size g12 hg12 hx12 rfl w.heap.size A2 vs ns c2 rfl HVL.out ((HRD2.out.keep fun b o hb => hW.cell (p := ⟨b, o, none⟩) (show b < w2.heap.size by omega))) HR0.out HV1.out (by omega) (by decide) hW.size ?_
    intro g' cap w' h2 h3 h4
    exact ⟨hW.trans (h4.mono hW.size), trivial, OneK.below h4, g', cap, rfl, h2, h3⟩
  · exact fun _ _ _ _ _ => trivial
  · rintro v W W' ⟨g', cap, h1, h2, h3⟩ hb
    exact ⟨g', cap, h1, own_below h2 hb, h3⟩
  intro v15
  simp only [Act.put, List.setIfInBounds_toArray, List.set_cons_succ, List.set_cons_zero]
  iterate 1 (apply rel_isG; (intro W hW hf; go_simp; first | exact ⟨⟨hW, Below.refl _ _⟩, rfl⟩ | exact ⟨Below.refl _ _, rfl⟩ | rfl); simp only [Act.put, List.setIfInBounds_toArray, List.set_cons_succ, List.set_cons_zero])
  apply rel_newG
  · intro W hW hf
    refine rel_valG (v := .slice (some ⟨W.heap.size, 0, none⟩) 1 1) (W' := W.alloc (.cells #[.slice C n capC] 30)) rfl (by go_simp) ?_
    exact ⟨hW.trans ((below_alloc W _).mono hW.size), ⟨_, rfl, hW.size, heap_alloc_new _ _⟩, below_alloc W _⟩
  · exact newR_one
  intro v17
  simp only [Act.put, List.setIfInBounds_toArray, List.set_cons_succ, List.set_cons_zero]
  apply rel_effG
  · intro W hW hS hf
    obtain ⟨g15, cap, rfl, ho15, hc15⟩ := hS
    obtain ⟨g17, rfl, hg17, hx17⟩ := hf (17, NewR w2.heap.size 30 #[.slice C n capC] 1 v17) (by simp) (by simp [Oper.looksAt, Op.operands, Call.operands])
    refine rel_appFine ES46 rfl (.tmp 15) (.tmp 17) rfl w2.heap.size g15 ns cap vs rfl ho15 W.heap.size (some ⟨g17, 0, none⟩) [.slice C n capC] 1 1 rfl rfl (fun j u hu => ⟨g17, 0, rfl, lt_blk hx17, by rw [cell_blk hx17]; simpa using hu⟩) (fun h => by cases h) (by intro u hu; simp at hu; subst hu; rfl) (by omega) (by decide) hW.size hc15 (by decide) ?_
    intro v' w' h2 h3 h4
    exact ⟨hW.grown h3 hW.size (fun k hk => (ho15.lt k hk).1), trivial, h4, h2⟩
  · exact fun _ _ _ _ _ => trivial
  · exact fun v w w' h hb => own_below h hb
  intro v18
  simp only [Act.put, List.setIfInBounds_toArray, List.set_cons_succ, List.set_cons_zero]
  refine rel_endG ?_
  intro W hW hS hf
  try simp only [Act.put, List.setIfInBounds_toArray, List.set_cons_succ, List.set_cons_zero]
  have HW := Lib.hid hW
  obtain ⟨A18, c18, rfl, _, _, _⟩ := own_rd hS
  have HO := Lib.hid hS
  clear hW hf hS
  obtain ⟨x1, x2⟩ := T1.out W HW.out
  have y0 := T2b.out W HW.out
  have y1 := cell_blk y0 0; have y2 := cell_blk y0 1
  simp only [List.getElem?_toArray, List.getElem?_cons_succ, List.getElem?_cons_zero] at y1 y2
  have fz := fun i => free_blk y0 i
  have Y0 := Lib.hid y0
  clear y0
  go_wp2_with fail
  have z1 : (W.setCell ⟨w.heap.size + 1, 0, none⟩ (.slice A1 k1 c1)).heap[w.heap.size + 1]? = some (.cells #[.slice A1 k1 c1, .slice none 0 0] 36 (0, 0)) := set_blk Y0.out 0 _
  have z2 : ((W.setCell ⟨w.heap.size + 1, 0, none⟩ (.slice A1 k1 c1)).setCell ⟨w.heap.size + 1, 1, none⟩ (.slice A18 (ns + 1) c18)).heap[w.heap.size + 1]? = some (.cells #[.slice A1 k1 c1, .slice A18 (ns + 1) c18] 36 (0, 0)) := set_blk z1 1 _
  refine bodyPost_ret (results_cell_row rfl _ _ (w.heap.size + 1) 36 #[.slice A1 k1 c1, .slice A18 (ns + 1) c18] (0, 0) _ rfl z2 Tryz.underlying36 rfl (by kernel_rfl)) rfl ?_
  have hbw : Below w.heap.size w W := HB2.out.trans (HW.out.mono hb2)
  have ho2 := ownsRow_setCell_below (ownsRow_setCell_below HO.out (a := ⟨w.heap.size + 1, 0, none⟩) hw2 (.slice A1 k1 c1)) (a := ⟨w.heap.size + 1, 1, none⟩) hw2 (.slice A18 (ns + 1) c18)
  have ho3 := own_less ho2 (show w0.heap.size ≤ w2.heap.size by have := HB.out.size; omega)
  refine ⟨(hbw.setCell (show w.heap.size ≤ w.heap.size + 1 by omega) _).setCell (show w.heap.size ≤ w.heap.size + 1 by omega) _, _, _, rfl, HSN.out, SRow.snoc (c := capC) HVS.out (by rw [HVL.out, Nat.mul_one, HNS.out]) ?_ HC.out HC0.out⟩
  rw [HNS.out, HN.out] at ho3
  rw [HNS.out]
  exact ho3
set_option maxRecDepth 100000 in
set_option maxHeartbeats 4000000 in
theorem same22_at {w : World} (s1 s2 : List UInt8) (S1 S2 : List (List UInt8)) (A1 A2 R1 R2 : Option Addr) (n1 n2 m1 m2 a1 a2 b1 b2 : Nat) (hn1 : n1 = s1.length) (hn2 : n2 = s2.length) (hm1 : m1 = S1.length) (hm2 : m2 = S2.length) (hb1 : m1 ≤ 1000000) (hb2 : m2 ≤ 1000000)
    (h1 : Bs w w.heap.size A1 s1) (h1n : A1 = none → s1 = []) (h2 : Bs w w.heap.size A2 s2) (h2n : A2 = none → s2 = []) (hS1 : Ls w w.heap.size R1 S1) (hS2 : Ls w w.heap.size R2 S2) :
    Calls Tryz.prog 50 #[.agg #[.slice A1 n1 a1, .slice R1 m1 b1], .agg #[.slice A2 n2 a2, .slice R2 m2 b2]] w fun e w' => e = .returned (.bool (decide (s1 = s2 ∧ S1 = S2))) ∧ Below w.heap.size w w' := by
  have SB := Lib.hid (fun W (hW : Below w.heap.size w W) => same_bytes s1 s2 A1 A2 n1 n2 a1 a2 W _ _ hn1 hn2 ((h1.below hW).more hW.size) h1n ((h2.below hW).more hW.size) h2n)
  have SL : Hid (∀ W, Below w.heap.size w W → Calls Tryz.prog 22 #[.slice R1 m1 b1, .slice R2 m2 b2] W fun e w' => e = .returned (.bool (decide (S1 = S2))) ∧ Below W.heap.size W w') := Lib.hid (fun W hW => by
    subst hm1 hm2
    exact lists22 S1 S2 hb1 hb2 R1 R2 b1 b2 _ _ W ((hS1.below hW).more hW.size) (Nat.le_refl _) ((hS2.below hW).more hW.size) (Nat.le_refl _))
  clear h1 h1n h2 h2n hS1 hS2 hn1 hn2 hm1 hm2
  by_cases he1 : s1 = s2
  · have HE1 := Lib.hid he1
    by_cases he2 : S1 = S2
    · have HD : Hid (decide (s1 = s2 ∧ S1 = S2) = true) := Lib.hid (decide_eq_true ⟨he1, he2⟩)
      rw [decide_eq_true he1] at SB; rw [decide_eq_true he2] at SL
      clear he1 he2
      go_enter Tryz.func50, Tryz.ntmps50
      go_wp2_with fail
      obtain ⟨b0_, b1_, hb_⟩ := boxes2 w (.cells #[.slice A1 n1 a1, .slice R1 m1 b1] 36) (.cells #[.slice A2 n2 a2, .slice R2 m2 b2] 36)
      generalize (w.alloc (.cells #[.slice A1 n1 a1, .slice R1 m1 b1] 36)).alloc (.cells #[.slice A2 n2 a2, .slice R2 m2 b2] 36) = w2 at *
      have T1 : Hid (∀ W, Below w2.heap.size w2 W → W.cell? ⟨w.heap.size, 0, none⟩ = some (.slice A1 n1 a1) ∧ W.cell? ⟨w.heap.size, 1, none⟩ = some (.slice R1 m1 b1)) := Lib.hid (fun W hW => by have e := (hW.block _ (lt_blk b0_)).trans b0_; exact ⟨by rw [cell_blk e]; rfl, by rw [cell_blk e]; rfl⟩)
      have T2 : Hid (∀ W, Below w2.heap.size w2 W → W.cell? ⟨w.heap.size + 1, 0, none⟩ = some (.slice A2 n2 a2) ∧ W.cell? ⟨w.heap.size + 1, 1, none⟩ = some (.slice R2 m2 b2)) := Lib.hid (fun W hW => by have e := (hW.block _ (lt_blk b1_)).trans b1_; exact ⟨by rw [cell_blk e]; rfl, by rw [cell_blk e]; rfl⟩)
      have HB2 := Lib.hid hb_
      clear hb_ b0_ b1_
      refine (SB.out w2 HB2.out).mono ?_
      rintro e w3 ⟨rfl, hw3⟩
      rw [← hw3]
      clear hw3 SB
      obtain ⟨x1, x2⟩ := T1.out w2 (Below.refl _ _)
      obtain ⟨x3, x4⟩ := T2.out w2 (Below.refl _ _)
      go_wp2_with fail
      refine (SL.out w2 HB2.out).mono ?_
      rintro e w4 ⟨rfl, hb4⟩
      have HB4 := Lib.hid (HB2.out.trans (hb4.mono HB2.out.size))
      clear hb4
      go_wp2_with fail
      go_ret
      exact ⟨by rw [HD.out]; rfl, HB4.out⟩
    · have HD : Hid (decide (s1 = s2 ∧ S1 = S2) = false) := Lib.hid (decide_eq_false fun h => he2 h.2)
      rw [decide_eq_true he1] at SB; rw [decide_eq_false he2] at SL
      clear he1 he2
      go_enter Tryz.func50, Tryz.ntmps50
      go_wp2_with fail
      obtain ⟨b0_, b1_, hb_⟩ := boxes2 w (.cells #[.slice A1 n1 a1, .slice R1 m1 b1] 36) (.cells #[.slice A2 n2 a2, .slice R2 m2 b2] 36)
      generalize (w.alloc (.cells #[.slice A1 n1 a1, .slice R1 m1 b1] 36)).alloc (.cells #[.slice A2 n2 a2, .slice R2 m2 b2] 36) = w2 at *
      have T1 : Hid (∀ W, Below w2.heap.size w2 W → W.cell? ⟨w.heap.size, 0, none⟩ = some (.slice A1 n1 a1) ∧ W.cell? ⟨w.heap.size, 1, none⟩ = some (.slice R1 m1 b1)) := Lib.hid (fun W hW => by have e := (hW.block _ (lt_blk b0_)).trans b0_; exact ⟨by rw [cell_blk e]; rfl, by rw [cell_blk e]; rfl⟩)
      have T2 : Hid (∀ W, Below w2.heap.size w2 W → W.cell? ⟨w.heap.size + 1, 0, none⟩ = some (.slice A2 n2 a2) ∧ W.cell? ⟨w.heap.size + 1, 1, none⟩ = some (.slice R2 m2 b2)) := Lib.hid (fun W hW => by have e := (hW.block _ (lt_blk b1_)).trans b1_; exact ⟨by rw [cell_blk e]; rfl, by rw [cell_blk e]; rfl⟩)
      have HB2 := Lib.hid hb_
      clear hb_ b0_ b1_
      refine (SB.out w2 HB2.out).mono ?_
      rintro e w3 ⟨rfl, hw3⟩
      rw [← hw3]
      clear hw3 SB
      obtain ⟨x1, x2⟩ := T1.out w2 (Below.refl _ _)
      obtain ⟨x3, x4⟩ := T2.out w2 (Below.refl _ _)
      go_wp2_with fail
      refine (SL.out w2 HB2.out).mono ?_
      rintro e w4 ⟨rfl, hb4⟩
      have HB4 := Lib.hid (HB2.out.trans (hb4.mono HB2.out.size))
      clear hb4
      go_wp2_with fail
      go_ret
      exact ⟨by rw [HD.out]; rfl, HB4.out⟩
  · have HD : Hid (decide (s1 = s2 ∧ S1 = S2) = false) := Lib.hid (decide_eq_false fun h => he1 h.1)
    rw [decide_eq_false he1] at SB
    clear he1 SL
    go_enter Tryz.func50, Tryz.ntmps50
    go_wp2_with fail
    obtain ⟨b0_, b1_, hb_⟩ := boxes2 w (.cells #[.slice A1 n1 a1, .slice R1 m1 b1] 36) (.cells #[.slice A2 n2 a2, .slice R2 m2 b2] 36)
    generalize (w.alloc (.cells #[.slice A1 n1 a1, .slice R1 m1 b1] 36)).alloc (.cells #[.slice A2 n2 a2, .slice R2 m2 b2] 36) = w2 at *
    have T1 : Hid (∀ W, Below w2.heap.size w2 W → W.cell? ⟨w.heap.size, 0, none⟩ = some (.slice A1 n1 a1) ∧ W.cell? ⟨w.heap.size, 1, none⟩ = some (.slice R1 m1 b1)) := Lib.hid (fun W hW => by have e := (hW.block _ (lt_blk b0_)).trans b0_; exact ⟨by rw [cell_blk e]; rfl, by rw [cell_blk e]; rfl⟩)
    have T2 : Hid (∀ W, Below w2.heap.size w2 W → W.cell? ⟨w.heap.size + 1, 0, none⟩ = some (.slice A2 n2 a2) ∧ W.cell? ⟨w.heap.size + 1, 1, none⟩ = some (.slice R2 m2 b2)) := Lib.hid (fun W hW => by have e := (hW.block _ (lt_blk b1_)).trans b1_; exact ⟨by rw [cell_blk e]; rfl, by rw [cell_blk e]; rfl⟩)
    have HB2 := Lib.hid hb_
    clear hb_ b0_ b1_
    refine (SB.out w2 HB2.out).mono ?_
    rintro e w3 ⟨rfl, hw3⟩
    rw [← hw3]
    clear hw3 SB
    obtain ⟨x1, x2⟩ := T1.out w2 (Below.refl _ _)
    obtain ⟨x3, x4⟩ := T2.out w2 (Below.refl _ _)
    go_wp2_with fail
    go_ret
    exact ⟨by rw [HD.out]; rfl, HB2.out⟩
end Go.Proofs.YtegekaocbalndaaGreatDoor
end

section
set_option linter.unusedSimpArgs false
set_option linter.unusedVariables false
namespace Go.Proofs.YtegekaocbalndaaGreatDoor
open Go.RowKit

/-- a disk and two states, in variables of their own. -/
structure RD (w0 w : World) (p m a1 a2 : Nat) (d : Dk) (nu nr du dr : Value) (ns : List UInt8) (nS : List (List UInt8)) (ds : List UInt8) (dS : List (List UInt8)) : Prop where
  disk : DiskAt w p m d
  below : Below w0.heap.size w0 w
  new : w0.heap.size ≤ p ∧ w0.heap.size ≤ m
  v1 : w.heap[a1]? = some (.cells #[nu, nr] 36 (0, 0))
  v2 : w.heap[a2]? = some (.cells #[du, dr] 36 (0, 0))
  ns : StV2 w0 w nu nr ns nS
  ds : StV2 w0 w du dr ds dS
theorem st_ne {w : World} {p m a : Nat} {d : Dk} {nu nr : Value} (h : w.heap[a]? = some (.cells #[nu, nr] 36 (0, 0))) (hd : DiskAt w p m d) (hu : ∃ A n c, nu = .slice A n c) : a ≠ p ∧ a ≠ m := by
  obtain ⟨A, n, c, rfl⟩ := hu
  refine ⟨?_, hd.raw.no_map (cell_blk h 0)⟩
  rintro rfl
  have h1 := h.symm.trans hd.own
  simp at h1
theorem SnV.shape {w0 : World} {v : Value} {s : List UInt8} (h : SnV w0 v s) : ∃ A n c, v = .slice A n c := by
  obtain ⟨A, c, e, _⟩ := h
  exact ⟨A, _, c, e⟩
theorem StV2.below {w0 w w' : World} {u r : Value} {s : List UInt8} {S : List (List UInt8)} (h : StV2 w0 w u r s S) (hb : Below w.heap.size w w') : StV2 w0 w' u r s S := ⟨h.1, h.2.below hb⟩
section
variable {w0 w w' : World} {p m a1 a2 : Nat} {d d' : Dk} {nu nr du dr : Value} {ns ds : List UInt8} {nS dS : List (List UInt8)}
theorem RD.after (h : RD w0 w p m a1 a2 d nu nr du dr ns nS ds dS) (hb : Below w.heap.size w w') : RD w0 w' p m a1 a2 d nu nr du dr ns nS ds dS :=
  ⟨h.disk.below hb, h.below.trans (hb.mono h.below.size), h.new, (hb.block _ (lt_blk h.v1)).trans h.v1, (hb.block _ (lt_blk h.v2)).trans h.v2, h.ns.below hb, h.ds.below hb⟩
theorem RD.step (h : RD w0 w p m a1 a2 d nu nr du dr ns nS ds dS) (hd : DiskAt w' p m d') (hw : Dw w w' p m) : RD w0 w' p m a1 a2 d' nu nr du dr ns nS ds dS := by
  have n1 := st_ne h.v1 h.disk h.ns.1.shape
  have n2 := st_ne h.v2 h.disk h.ds.1.shape
  exact ⟨hd, below_dw h.below hw h.new.1 h.new.2, h.new, (hw.block _ (lt_blk h.v1) n1.1 n1.2).trans h.v1, (hw.block _ (lt_blk h.v2) n2.1 n2.2).trans h.v2, ⟨h.ns.1, h.ns.2.bw hw.bw (h.ns.2.apart h.disk)⟩, ⟨h.ds.1, h.ds.2.bw hw.bw (h.ds.2.apart h.disk)⟩⟩
end
theorem RD.c1 {w0 w : World} {p m a1 a2 : Nat} {d : Dk} {nu nr du dr : Value} {ns ds : List UInt8} {nS dS : List (List UInt8)} (h : RD w0 w p m a1 a2 d nu nr du dr ns nS ds dS) : w.cell? ⟨a1, 0, none⟩ = some nu ∧ w.cell? ⟨a1, 1, none⟩ = some nr := ⟨by rw [cell_blk h.v1]; rfl, by rw [cell_blk h.v1]; rfl⟩
theorem RD.c2 {w0 w : World} {p m a1 a2 : Nat} {d : Dk} {nu nr du dr : Value} {ns ds : List UInt8} {nS dS : List (List UInt8)} (h : RD w0 w p m a1 a2 d nu nr du dr ns nS ds dS) : w.cell? ⟨a2, 0, none⟩ = some du ∧ w.cell? ⟨a2, 1, none⟩ = some dr := ⟨by rw [cell_blk h.v2]; rfl, by rw [cell_blk h.v2]; rfl⟩
/-- a state's two values are slices whose contents are told. -/
theorem StV2.told {w0 w : World} {u r : Value} {s : List UInt8} {S : List (List UInt8)} (h : StV2 w0 w u r s S) (hb : Below w0.heap.size w0 w) : ∃ A c B e, u = .slice A s.length c ∧ r = .slice B S.length e ∧ Bs w w.heap.size A s ∧ (A = none → s = []) ∧ Ls w w.heap.size B S := by
  obtain ⟨⟨A, c, rfl, h1, h2⟩, h3⟩ := h
  obtain ⟨B, e, rfl⟩ := h3.shape
  exact ⟨A, c, B, e, rfl, rfl, (h1.below hb).more hb.size, h2, h3.ls hb⟩
theorem StV2.at {w0 w : World} {A B : Option Addr} {n c k e : Nat} {s : List UInt8} {S : List (List UInt8)} (h : StV2 w0 w (.slice A n c) (.slice B k e) s S) (hb : Below w0.heap.size w0 w) : n = s.length ∧ k = S.length ∧ Bs w w.heap.size A s ∧ (A = none → s = []) ∧ Ls w w.heap.size B S := by
  obtain ⟨A', c', B', e', h1, h2, h3, h4, h5⟩ := h.told hb
  injection h1 with a1 a2 a3
  injection h2 with b1 b2 b3
  subst a1 b1
  exact ⟨a2, b2, h3, h4, h5⟩
set_option maxRecDepth 100000 in
set_option maxHeartbeats 8000000 in
theorem reopens_at {w0 w : World} {p m : Nat} {d : Dk} {nu nr du dr : Value} {ns ds : List UInt8} {nS dS : List (List UInt8)} (hd : DiskAt w p m d) (hb : Below w0.heap.size w0 w) (hnew : w0.heap.size ≤ p ∧ w0.heap.size ≤ m) (hns : StV2 w0 w nu nr ns nS) (hds : StV2 w0 w du dr ds dS) (hln : nS.length ≤ 1000) (hld : dS.length ≤ 1000)
    (R : Nat) (hR : 100 ≤ R ∧ R ≤ 5000) (ho : Outc R d ns nS ds dS) (hw : d.writes ≤ 1000) (again : Nat) (ha : (again : Int) ≤ 9223372036854775807) (t : List Int) (tn : Nat) (htn : tn = t.length) (htl : tn ≤ 4611686018427387904) (T : Option Addr) (tc : Nat) (hT : Zs w0 w0.heap.size T t) (t2 : List Int) (un : Nat) (hun : un = t2.length) (hul : un ≤ 4611686018427387904) (U : Option Addr) (uc : Nat) (hU : Zs w0 w0.heap.size U t2) :
    Calls Tryz.prog 15 #[.pointer (some ⟨p, 0, none⟩), .int .i64 R, .int .i64 again, .slice T tn tc, .slice U un uc, .agg #[nu, nr], .agg #[du, dr]] w fun e w' => e = .returned (.bool true) ∧ Below w0.heap.size w0 w' := by
  have HK0 : Hid (∀ q ∈ d.fs, q.1.length ≤ 9223372036854775807) := Lib.hid (by obtain ⟨g, s, S, X, hp, _⟩ := ho; exact hp.names)
  obtain ⟨g, s, S, X, q1, q2, q3, q4, q5, q6, L, S', d5, L2, d6, hor, e5, g5, w5, e6, g6, w6⟩ := reopens_plain hR ho hw t t2 again ha
  obtain ⟨A1, c1, R1, k1, rfl, rfl, _⟩ := hns.told hb
  obtain ⟨A2, c2, R2, k2, rfl, rfl, _⟩ := hds.told hb
  obtain ⟨n1, hn1⟩ : ∃ n, n = ns.length := ⟨_, rfl⟩
  obtain ⟨m1, hm1⟩ : ∃ n, n = nS.length := ⟨_, rfl⟩
  obtain ⟨n2, hn2⟩ : ∃ n, n = ds.length := ⟨_, rfl⟩
  obtain ⟨m2, hm2⟩ : ∃ n, n = dS.length := ⟨_, rfl⟩
  rw [← hn1, ← hm1] at hns ⊢
  rw [← hn2, ← hm2] at hds ⊢
  have HNS := Lib.hid hns; have HDS := Lib.hid hds; have HD := Lib.hid hd; have HB := Lib.hid hb
  have HT := Lib.hid hT; have HU := Lib.hid hU; have HTN := Lib.hid htn; have HUN := Lib.hid hun
  have HLN : Hid (m1 ≤ 1000 ∧ m2 ≤ 1000) := Lib.hid ⟨by omega, by omega⟩
  have HOR := Lib.hid hor
  have HP2 := Lib.hid q3; have HK1 := Lib.hid q4.names; have HP6 := Lib.hid q6; have HG5 := Lib.hid g5; have HG6 := Lib.hid g6
  have hu1 := q4.used; have hu5 := g5.ps.used; have hu6 := g6.ps.used
  have HGG : Hid (g ≤ 60 ∧ S'.length ≤ 5000) := Lib.hid ⟨q4.ok.2.2, by
    obtain ⟨⟨f1, _, _, _⟩, hL, _⟩ := g5
    have hn : ∀ S : List (List UInt8), S.length ≤ (framesL S).length := fun S => by
      induction S with
      | nil => exact Nat.le_refl _
      | cons r S ih => rw [frames_cons, List.length_append, frame_length, List.length_cons]; omega
    have := hn S'
    omega⟩
  have HUS := Lib.hid g6.usum
  have HCF := Lib.hid (fun W (hW : DiskAt W p m d) (hz : Zs W W.heap.size T t) => crash_at hW HK0.out t tn htn htl T tc hz)
  have HSF : Hid (∀ W, DiskAt W p m (d.crash t) → Calls Tryz.prog 8 #[.pointer (some ⟨p, 0, none⟩), .int .i64 again] W fun e w' => e = .returned (.int .i64 0) ∧ DiskAt w' p m ⟨(d.crash t).size, (d.crash t).fs, again, d.writes⟩ ∧ Dw W w' p m) := Lib.hid (fun W hW => by
    have := stop_at hW again ha
    rw [q2] at this
    exact this)
  have HO1 := Lib.hid (fun W (hW : DiskAt W p m ⟨(d.crash t).size, (d.crash t).fs, again, d.writes⟩) => sopenR_at hW (show d.writes < _ by omega) R hR q3)
  have HC2 := Lib.hid (fun W (hW : DiskAt W p m (sopenR ⟨(d.crash t).size, (d.crash t).fs, again, d.writes⟩ R g).d) (hz : Zs W W.heap.size U t2) => crash_at hW HK1.out t2 un hun hul U uc hz)
  have HO2 : Hid (∀ W, DiskAt W p m ((sopenR ⟨(d.crash t).size, (d.crash t).fs, again, d.writes⟩ R g).d.crash t2) → Calls Tryz.prog 7 #[.pointer (some ⟨p, 0, none⟩), .string (str B1), .int .i64 R] W (SRP W p m R g s ⟨d5, some L, S', 0⟩)) := Lib.hid (fun W hW => by
    have := sopenR_at hW (Nat.lt_of_le_of_lt q5 (by decide)) R hR q6
    rw [e5] at this
    exact this)
  have HO3 : Hid (∀ W, DiskAt W p m d5 → Calls Tryz.prog 7 #[.pointer (some ⟨p, 0, none⟩), .string (str B1), .int .i64 R] W (SRP W p m R g s ⟨d6, some L2, S', 0⟩)) := Lib.hid (fun W hW => by
    have := sopenR_at hW (Nat.lt_of_le_of_lt w5 (by decide)) R hR g5.ps
    rw [e6] at this
    exact this)
  clear hns hds hd hb hT hU htn hun hor q1 q2 q3 q4 q6 g5 g6 e5 e6 ho hn1 hm1 hn2 hm2 hln hld
  generalize (sopenR ⟨(d.crash t).size, (d.crash t).fs, again, d.writes⟩ R g).d.crash t2 = d4 at *
  generalize sopenR ⟨(d.crash t).size, (d.crash t).fs, again, d.writes⟩ R g = r1 at *
  generalize (⟨(d.crash t).size, (d.crash t).fs, (again : Int), d.writes⟩ : Dk) = d2 at *
  generalize d.crash t = d1 at *
  have hst : str B1 = ⟨#[116, 49]⟩ := rfl
  rw [hst] at HO1 HO2 HO3
  clear hst HK0 HK1 HP2 HP6
  go_enter Tryz.func15, Tryz.ntmps15
  go_wp2_with fail
  obtain ⟨b0_, b1_, hb_⟩ := boxes2 w (.cells #[.slice A1 n1 c1, .slice R1 m1 k1] 36) (.cells #[.slice A2 n2 c2, .slice R2 m2 k2] 36)
  generalize (w.alloc (.cells #[.slice A1 n1 c1, .slice R1 m1 k1] 36)).alloc (.cells #[.slice A2 n2 c2, .slice R2 m2 k2] 36) = w1 at *
  have T1b : Hid (∀ W, Below w1.heap.size w1 W → W.heap[w.heap.size]? = some (.cells #[.slice A1 n1 c1, .slice R1 m1 k1] 36 (0, 0))) := Lib.hid (fun W hW => (hW.block _ (lt_blk b0_)).trans b0_)
  have T1 : Hid (∀ W, Below w1.heap.size w1 W → W.cell? ⟨w.heap.size, 0, none⟩ = some (.slice A1 n1 c1) ∧ W.cell? ⟨w.heap.size, 1, none⟩ = some (.slice R1 m1 k1)) := Lib.hid (fun W hW => by have e := (hW.block _ (lt_blk b0_)).trans b0_; exact ⟨by rw [cell_blk e]; rfl, by rw [cell_blk e]; rfl⟩)
  have T2b : Hid (∀ W, Below w1.heap.size w1 W → W.heap[w.heap.size + 1]? = some (.cells #[.slice A2 n2 c2, .slice R2 m2 k2] 36 (0, 0))) := Lib.hid (fun W hW => (hW.block _ (lt_blk b1_)).trans b1_)
  have T2 : Hid (∀ W, Below w1.heap.size w1 W → W.cell? ⟨w.heap.size + 1, 0, none⟩ = some (.slice A2 n2 c2) ∧ W.cell? ⟨w.heap.size + 1, 1, none⟩ = some (.slice R2 m2 k2)) := Lib.hid (fun W hW => by have e := (hW.block _ (lt_blk b1_)).trans b1_; exact ⟨by rw [cell_blk e]; rfl, by rw [cell_blk e]; rfl⟩)
  have HB1 := Lib.hid hb_
  clear hb_ b0_ b1_
  have HR1 : Hid (RD w0 w1 p m w.heap.size (w.heap.size + 1) d (.slice A1 n1 c1) (.slice R1 m1 k1) (.slice A2 n2 c2) (.slice R2 m2 k2) ns nS ds dS) := Lib.hid ⟨HD.out.below HB1.out, HB.out.trans (HB1.out.mono HB.out.size), hnew, T1b.out w1 (Below.refl _ _), T2b.out w1 (Below.refl _ _), HNS.out.below HB1.out, HDS.out.below HB1.out⟩
  clear HD HB HNS HDS HB1 T1 T2 T1b T2b
  generalize w.heap.size + 1 = b2 at *
  generalize w.heap.size = b1 at *
  refine (HCF.out w1 HR1.out.disk ((HT.out.below HR1.out.below).more HR1.out.below.size)).mono ?_
  rintro e w2 ⟨rfl, hd, hdw⟩
  have HR2 := Lib.hid (HR1.out.step hd hdw)
  clear hd hdw HR1 HCF HT
  go_wp2_with fail
  refine (HSF.out w2 HR2.out.disk).mono ?_
  rintro e w3 ⟨rfl, hd, hdw⟩
  have HR3 := Lib.hid (HR2.out.step hd hdw)
  clear hd hdw HR2 HSF
  go_wp2_with fail
  refine (HO1.out w3 HR3.out.disk).mono ?_
  rintro e w4 ⟨hd, hdw, pv4, As4, sl4, cs4, Ar4, ll4, cr4, rfl, _⟩
  have HR4 := Lib.hid (HR3.out.step hd hdw)
  clear hd hdw HR3 HO1
  go_wp2_with fail
  refine (used_at HR4.out.disk).mono ?_
  rintro e w5 ⟨rfl, hb⟩
  have HR5 := Lib.hid (HR4.out.after hb)
  have hu1' : ¬ ((R : Int) < (r1.d.used : Int)) := by omega
  have hu1d : decide ((R : Int) < (r1.d.used : Int)) = false := decide_eq_false hu1'
  clear hb HR4
  go_wp2_with fail
  refine (HC2.out w5 HR5.out.disk ((HU.out.below HR5.out.below).more HR5.out.below.size)).mono ?_
  rintro e w6 ⟨rfl, hd, hdw⟩
  have HR6 := Lib.hid (HR5.out.step hd hdw)
  clear hd hdw HR5 HC2 HU
  go_wp2_with fail
  refine (HO2.out w6 HR6.out.disk).mono ?_
  rintro e w7 ⟨hd, hdw, pv7, As7, sl7, cs7, Ar7, ll7, cr7, rfl, hok⟩
  obtain ⟨hsl7, hll7, hbs7, hbn7, hls7, _, s7, q7, rfl, _, _, _, _, _⟩ := hok rfl
  have HR7 := Lib.hid (HR6.out.step hd hdw)
  have HG7 : Hid (Bs w7 w7.heap.size As7 s ∧ Ls w7 w7.heap.size Ar7 S') := Lib.hid ⟨hbs7, hls7⟩
  have HN7 : Hid (sl7 = s.length ∧ ll7 = S'.length ∧ (As7 = none → s = [])) := Lib.hid ⟨hsl7, hll7, hbn7⟩
  clear hd hdw HR6 HO2 hok hsl7 hll7 hbs7 hbn7 hls7
  go_wp2_with fail
  refine (HO3.out w7 HR7.out.disk).mono ?_
  rintro e w8 ⟨hd, hdw, pv8, As8, sl8, cs8, Ar8, ll8, cr8, rfl, hok⟩
  obtain ⟨hsl8, hll8, hbs8, hbn8, hls8, _, s8, q8, rfl, hst8, hlg8, _, _, _⟩ := hok rfl
  have HR8 := Lib.hid (HR7.out.step hd hdw)
  have HG8 : Hid ((Bs w8 w8.heap.size As7 s ∧ Ls w8 w8.heap.size Ar7 S') ∧ Bs w8 w8.heap.size As8 s ∧ Ls w8 w8.heap.size Ar8 S') := Lib.hid ⟨⟨(HR7.out.disk.bs hdw (Nat.le_refl _) HG7.out.1).more hdw.size, (hdw.bw.ls HR7.out.disk.noSl (Nat.le_refl _) HG7.out.2).more hdw.size⟩, hbs8, hls8⟩
  have HN8 : Hid (sl8 = s.length ∧ ll8 = S'.length ∧ (As8 = none → s = [])) := Lib.hid ⟨hsl8, hll8, hbn8⟩
  have HS8 := Lib.hid hst8
  clear hd hdw HR7 HO3 hok hsl8 hll8 hbs8 hbn8 hls8 HG7 hst8 hlg8
  go_wp2_with fail
  obtain ⟨b0_, hb_⟩ := boxes1 w8 (.cells #[.slice As7 sl7 cs7, .slice Ar7 ll7 cr7] 36)
  generalize w8.alloc (.cells #[.slice As7 sl7 cs7, .slice Ar7 ll7 cr7] 36) = w9 at *
  have T9b : Hid (∀ W, Below w9.heap.size w9 W → W.heap[w8.heap.size]? = some (.cells #[.slice As7 sl7 cs7, .slice Ar7 ll7 cr7] 36 (0, 0))) := Lib.hid (fun W hW => (hW.block _ (lt_blk b0_)).trans b0_)
  have T9 : Hid (∀ W, Below w9.heap.size w9 W → W.cell? ⟨w8.heap.size, 0, none⟩ = some (.slice As7 sl7 cs7) ∧ W.cell? ⟨w8.heap.size, 1, none⟩ = some (.slice Ar7 ll7 cr7)) := Lib.hid (fun W hW => by have e := (hW.block _ (lt_blk b0_)).trans b0_; exact ⟨by rw [cell_blk e]; rfl, by rw [cell_blk e]; rfl⟩)
  have HB9 := Lib.hid hb_
  clear hb_ b0_
  have HR9 := Lib.hid (HR8.out.after HB9.out)
  have HG9 : Hid ((Bs w9 w9.heap.size As7 s ∧ Ls w9 w9.heap.size Ar7 S') ∧ Bs w9 w9.heap.size As8 s ∧ Ls w9 w9.heap.size Ar8 S') := Lib.hid ⟨⟨(HG8.out.1.1.below HB9.out).more HB9.out.size, (HG8.out.1.2.below HB9.out).more HB9.out.size⟩, (HG8.out.2.1.below HB9.out).more HB9.out.size, (HG8.out.2.2.below HB9.out).more HB9.out.size⟩
  have HS9 := Lib.hid (HS8.out.below HB9.out)
  have hsm := same22_at (w := w9) s s S' S' As7 As8 Ar7 Ar8 sl7 sl8 ll7 ll8 cs7 cs8 cr7 cr8 HN7.out.1 HN8.out.1 HN7.out.2.1 HN8.out.2.1 (by rw [HN7.out.2.1]; have := HGG.out.2; omega) (by rw [HN8.out.2.1]; have := HGG.out.2; omega) HG9.out.1.1 HN7.out.2.2 HG9.out.2.1 HN8.out.2.2 HG9.out.1.2 HG9.out.2.2
  rw [decide_eq_true ⟨rfl, rfl⟩] at hsm
  have HSM := Lib.hid hsm
  clear hsm HG8 HR8 HS8
  generalize w8.heap.size = b3 at *
  refine HSM.out.mono ?_
  rintro e w10 ⟨rfl, hb⟩
  have HR10 := Lib.hid (HR9.out.after hb); have HS10 := Lib.hid (HS9.out.below hb); have HB10 := Lib.hid hb
  have HG10 : Hid (Bs w10 w10.heap.size As7 s ∧ Ls w10 w10.heap.size Ar7 S') := Lib.hid ⟨(HG9.out.1.1.below hb).more hb.size, (HG9.out.1.2.below hb).more hb.size⟩
  obtain ⟨x1, x2⟩ := T9.out w10 hb
  obtain ⟨x3, x4⟩ := HR10.out.c1
  clear hb HSM HR9 HS9 HG9
  by_cases hnow : s = ns ∧ S' = nS
  · obtain ⟨a1, a2, a3, a4, a5⟩ := HR10.out.ns.at HR10.out.below
    have hsm := same22_at (w := w10) s ns S' nS As7 A1 Ar7 R1 sl7 n1 ll7 m1 cs7 c1 cr7 k1 HN7.out.1 a1 HN7.out.2.1 a2 (by rw [HN7.out.2.1]; have := HGG.out.2; omega) (by have := HLN.out.1; omega) HG10.out.1 HN7.out.2.2 a3 a4 HG10.out.2 a5
    rw [decide_eq_true hnow] at hsm
    have HSM := Lib.hid hsm
    clear hsm a1 a2 a3 a4 a5 hnow HOR
    go_wp2_with fail
    refine HSM.out.mono ?_
    rintro e w11 ⟨rfl, hb⟩
    have HRZ := Lib.hid (HR10.out.after hb); have HSZ := Lib.hid (HS10.out.below hb)
    clear hb HR10 HS10 HG10 HSM x1 x2 x3 x4
    go_wp2_with fail
    refine (used_at HRZ.out.disk).mono ?_
    rintro e w20 ⟨rfl, hb⟩
    have HR20 := Lib.hid (HRZ.out.after hb); have HS20 := Lib.hid (HSZ.out.below hb)
    have hu6d : decide ((d6.used : Int) ≤ (R : Int)) = true := decide_eq_true (by omega)
    have hu6' : (d6.used : Int) ≤ (R : Int) := by omega
    have HSU := sused_at HS20.out HR20.out.disk (by decide) (by have := HGG.out.1; omega)
    rw [HUS.out] at HSU
    have HSU := Lib.hid HSU
    clear hb HRZ HSZ HUS
    go_wp2_with fail
    refine HSU.out.mono ?_
    rintro e w21 ⟨rfl, hb⟩
    have HR21 := Lib.hid (HR20.out.after hb); have HS21 := Lib.hid (HS20.out.below hb)
    clear hb HR20 HS20 HSU
    go_wp2_with fail
    refine (used_at HR21.out.disk).mono ?_
    rintro e w22 ⟨rfl, hb⟩
    have HR22 := Lib.hid (HR21.out.after hb); have HS22 := Lib.hid (HS21.out.below hb)
    clear hb HR21 HS21
    go_wp2_with fail
    refine (sbroken_at HS22.out).mono ?_
    rintro e w23 ⟨rfl, hw⟩
    rw [hw]
    clear hw
    go_wp2_with fail
    go_ret
    exact ⟨rfl, HR22.out.below⟩
  · obtain ⟨a1, a2, a3, a4, a5⟩ := HR10.out.ns.at HR10.out.below
    have hsm := same22_at (w := w10) s ns S' nS As7 A1 Ar7 R1 sl7 n1 ll7 m1 cs7 c1 cr7 k1 HN7.out.1 a1 HN7.out.2.1 a2 (by rw [HN7.out.2.1]; have := HGG.out.2; omega) (by have := HLN.out.1; omega) HG10.out.1 HN7.out.2.2 a3 a4 HG10.out.2 a5
    rw [decide_eq_false hnow] at hsm
    have HSM := Lib.hid hsm
    have hdb : s = ds ∧ S' = dS := by
      rcases HOR.out with h | h
      · exact absurd h hnow
      · exact h
    have HDB := Lib.hid hdb
    clear hsm a1 a2 a3 a4 a5 hnow HOR hdb
    go_wp2_with fail
    refine HSM.out.mono ?_
    rintro e w11 ⟨rfl, hb⟩
    have HR11 := Lib.hid (HR10.out.after hb); have HS11 := Lib.hid (HS10.out.below hb)
    have HG11 : Hid (Bs w11 w11.heap.size As7 s ∧ Ls w11 w11.heap.size Ar7 S') := Lib.hid ⟨(HG10.out.1.below hb).more hb.size, (HG10.out.2.below hb).more hb.size⟩
    have y := T9.out w11 (HB10.out.trans (hb.mono HB10.out.size))
    clear x1 x2 x3 x4
    obtain ⟨x1, x2⟩ := y
    obtain ⟨x3, x4⟩ := HR11.out.c2
    obtain ⟨a1, a2, a3, a4, a5⟩ := HR11.out.ds.at HR11.out.below
    have hsm := same22_at (w := w11) s ds S' dS As7 A2 Ar7 R2 sl7 n2 ll7 m2 cs7 c2 cr7 k2 HN7.out.1 a1 HN7.out.2.1 a2 (by rw [HN7.out.2.1]; have := HGG.out.2; omega) (by have := HLN.out.2; omega) HG11.out.1 HN7.out.2.2 a3 a4 HG11.out.2 a5
    rw [decide_eq_true HDB.out] at hsm
    have HSM2 := Lib.hid hsm
    clear hb HSM HR10 HS10 HG10 hsm a1 a2 a3 a4 a5 HDB
    go_wp2_with fail
    refine HSM2.out.mono ?_
    rintro e w12 ⟨rfl, hb⟩
    have HRZ := Lib.hid (HR11.out.after hb); have HSZ := Lib.hid (HS11.out.below hb)
    clear hb HR11 HS11 HG11 HSM2 x1 x2 x3 x4
    go_wp2_with fail
    refine (used_at HRZ.out.disk).mono ?_
    rintro e w20 ⟨rfl, hb⟩
    have HR20 := Lib.hid (HRZ.out.after hb); have HS20 := Lib.hid (HSZ.out.below hb)
    have hu6d : decide ((d6.used : Int) ≤ (R : Int)) = true := decide_eq_true (by omega)
    have hu6' : (d6.used : Int) ≤ (R : Int) := by omega
    have HSU := sused_at HS20.out HR20.out.disk (by decide) (by have := HGG.out.1; omega)
    rw [HUS.out] at HSU
    have HSU := Lib.hid HSU
    clear hb HRZ HSZ HUS
    go_wp2_with fail
    refine HSU.out.mono ?_
    rintro e w21 ⟨rfl, hb⟩
    have HR21 := Lib.hid (HR20.out.after hb); have HS21 := Lib.hid (HS20.out.below hb)
    clear hb HR20 HS20 HSU
    go_wp2_with fail
    refine (used_at HR21.out.disk).mono ?_
    rintro e w22 ⟨rfl, hb⟩
    have HR22 := Lib.hid (HR21.out.after hb); have HS22 := Lib.hid (HS21.out.below hb)
    clear hb HR21 HS21
    go_wp2_with fail
    refine (sbroken_at HS22.out).mono ?_
    rintro e w23 ⟨rfl, hw⟩
    rw [hw]
    clear hw
    go_wp2_with fail
    go_ret
    exact ⟨rfl, HR22.out.below⟩
end Go.Proofs.YtegekaocbalndaaGreatDoor
end

section
set_option linter.unusedSimpArgs false
set_option linter.unusedVariables false
namespace Go.Proofs.YtegekaocbalndaaGreatDoor
open Go.RowKit

/-- a store on its disk, and the law's two states. -/
structure CS (w0 w : World) (p m s q a1 a2 R g : Nat) (b : Bool) (d : Dk) (L : Lg) (nu nr du dr : Value) (ns : List UInt8) (nS : List (List UInt8)) (ds : List UInt8) (dS : List (List UInt8)) : Prop where
  sto : Sto w s q p m B1 R (g : Nat) b d L
  rd : RD w0 w p m a1 a2 d nu nr du dr ns nS ds dS
  new : w0.heap.size ≤ q ∧ w0.heap.size ≤ s ∧ w0.heap.size ≤ a1 ∧ w0.heap.size ≤ a2
  ne : a1 ≠ a2
theorem v_ne {w : World} {p q s a : Nat} {base : Nm} {res g : Int} {lv : Value} {b : Bool} {L : Lg} {nu nr : Value} (h : w.heap[a]? = some (.cells #[nu, nr] 36 (0, 0))) (hs : StoreAt w s p base res g lv b) (hl : LogAt w q p L) : a ≠ s ∧ a ≠ q := by
  constructor
  · rintro rfl
    have h1 := h.symm.trans hs
    simp at h1
  · rintro rfl
    have h1 := h.symm.trans hl
    simp at h1
section
variable {w0 w w' : World} {p m s q q' a1 a2 R g g' : Nat} {b b' : Bool} {d d' : Dk} {L L' : Lg} {nu nr du dr u r : Value} {ns ds x : List UInt8} {nS dS X : List (List UInt8)}
theorem CS.after (h : CS w0 w p m s q a1 a2 R g b d L nu nr du dr ns nS ds dS) (hb : Below w.heap.size w w') : CS w0 w' p m s q a1 a2 R g b d L nu nr du dr ns nS ds dS := ⟨h.sto.below hb, h.rd.after hb, h.new, h.ne⟩
/-- behind a call that writes to the disk, the log and the store alone. -/
theorem CS.bw (h : CS w0 w p m s q a1 a2 R g b d L nu nr du dr ns nS ds dS) (hs : Sto w' s q' p m B1 R (g' : Nat) b' d' L') (hb : Bw w w' [p, m, q, s]) (hq : q' = q ∨ w.heap.size ≤ q') : CS w0 w' p m s q' a1 a2 R g' b' d' L' nu nr du dr ns nS ds dS := by
  have n1 := st_ne h.rd.v1 h.rd.disk h.rd.ns.1.shape
  have n2 := st_ne h.rd.v2 h.rd.disk h.rd.ds.1.shape
  have m1 := v_ne h.rd.v1 h.sto.st h.sto.log
  have m2 := v_ne h.rd.v2 h.sto.st h.sto.log
  have hn := h.new; have hp := h.rd.new; have hz := h.rd.below.size
  have hap : ∀ {v : Value} {S : List (List UInt8)}, SRow w0 w w0.heap.size v S → ∀ k ∈ [p, m, q, s], v.ownBlock ≠ some k := by
    intro v S hr k hk
    by_cases hs : k = s
    · subst hs; exact hr.ne h.sto.st (by decide)
    · exact hr.apart3 h.rd.disk h.sto.log k (by simp at hk ⊢; omega)
  exact ⟨hs, ⟨hs.disk, below_bw2 h.rd.below hb (by simp <;> omega), hp, (hb.block _ (lt_blk h.rd.v1) (by simp <;> omega)).trans h.rd.v1, (hb.block _ (lt_blk h.rd.v2) (by simp <;> omega)).trans h.rd.v2, ⟨h.rd.ns.1, h.rd.ns.2.bw hb (hap h.rd.ns.2)⟩, ⟨h.rd.ds.1, h.rd.ds.2.bw hb (hap h.rd.ds.2)⟩⟩, ⟨by rcases hq with rfl | hq <;> omega, hn.2⟩, h.ne⟩
theorem CS.commit (h : CS w0 w p m s q a1 a2 R g false d L nu nr du dr ns nS ds dS) (hok : L.Ok) (hw : d.writes < 100000000000) (y : List UInt8) (n : Nat) (hn : n = y.length) (C : Option Addr) (capb : Nat) (hC : Bs w w.heap.size C y) (hC0 : C = none → y = []) :
    Calls Tryz.prog 12 #[.pointer (some ⟨s, 0, none⟩), .slice C n capb] w fun e w' => e = .returned (.int .i64 (lcommit L d y).2.2) ∧ CS w0 w' p m s q a1 a2 R g (lcommit L d y).1.broken (lcommit L d y).2.1 (lcommit L d y).1 nu nr du dr ns nS ds dS :=
  (scommit_at h.sto hok hw y n hn C capb hC hC0).mono fun e w' ⟨h1, h2, h3⟩ => ⟨h1, h.bw h2 h3 (.inl rfl)⟩
theorem CS.compact (h : CS w0 w p m s q a1 a2 R g false d L nu nr du dr ns nS ds dS) (hR : 100 ≤ R ∧ R ≤ 5000) (hG : GS R d L g ns nS) (hg : g ≤ 50) (hw : d.writes < 1000000000) (y : List UInt8) (n : Nat) (hn : n = y.length) (hn2 : n ≤ 60000) (C : Option Addr) (capb : Nat) (hC : Bs w w.heap.size C y) (hC0 : C = none → y = []) (hsm : smallB n R = true) :
    Calls Tryz.prog 11 #[.pointer (some ⟨s, 0, none⟩), .slice C n capb] w fun e w' => ∃ z d' g' L'' q', e = .returned (.int .i64 (z : Nat)) ∧ CRes R d g ns nS y z d' g' L'' ∧ L''.Ok ∧ g' ≤ g + 1 ∧ CS w0 w' p m s q' a1 a2 R g' (brkB z d d') d' L'' nu nr du dr ns nS ds dS := by
  obtain ⟨h1, h2⟩ := compact_gs hR hG (by omega) hw y (by rw [← hn]; exact hsm)
  have hok := hG.lok hR.2
  refine (compact_at h.sto (by omega) (by decide) hw (by omega) y n hn hn2 C capb hC hC0 hsm _ h1).mono ?_
  rintro e w' ⟨z, d', g', L'', q', rfl, hc, hs, hb, hq⟩
  refine ⟨z, d', g', L'', q', rfl, h2 z d' g' L'' hc, ?_, ?_, h.bw hs (hb.more (by simp <;> omega)) hq⟩
  · rcases hc with ⟨_, _, _, _, rfl⟩ | ⟨_, _, _, _, _, rfl⟩ | ⟨_, _, _, _, _, _, rfl⟩ | ⟨_, _, _, _, _, _, _, rfl⟩ | ⟨_, _, _, _, _, _, _, rfl⟩
    · exact hok
    · exact hok
    · exact hok
    · exact hok
    · exact log0_ok hR.2
  · rcases hc with ⟨_, _, _, rfl, _⟩ | ⟨_, _, _, _, rfl, _⟩ | ⟨_, _, _, _, _, rfl, _⟩ | ⟨_, _, _, _, _, _, rfl, _⟩ | ⟨_, _, _, _, _, _, rfl, _⟩ <;> omega
/-- a state's variable is written. -/
theorem CS.set (h : CS w0 w p m s q a1 a2 R g b d L nu nr du dr ns nS ds dS) (hst : StV2 w0 w u r x X) :
    CS w0 ((w.setCell ⟨a1, 0, none⟩ u).setCell ⟨a1, 1, none⟩ r) p m s q a1 a2 R g b d L u r du dr x X ds dS ∧ CS w0 ((w.setCell ⟨a2, 0, none⟩ u).setCell ⟨a2, 1, none⟩ r) p m s q a1 a2 R g b d L nu nr u r ns nS x X := by
  have n1 := st_ne h.rd.v1 h.rd.disk h.rd.ns.1.shape
  have n2 := st_ne h.rd.v2 h.rd.disk h.rd.ds.1.shape
  have m1 := v_ne h.rd.v1 h.sto.st h.sto.log
  have m2 := v_ne h.rd.v2 h.sto.st h.sto.log
  have hn := h.new; have hne := h.ne
  obtain ⟨A1, k1, c1, rfl⟩ := h.rd.ns.1.shape
  obtain ⟨A2, k2, c2, rfl⟩ := h.rd.ds.1.shape
  obtain ⟨R1, e1, rfl⟩ := h.rd.ns.2.shape
  obtain ⟨R2, e2, rfl⟩ := h.rd.ds.2.shape
  obtain ⟨A3, k3, c3, rfl⟩ := hst.1.shape
  obtain ⟨R3, e3, rfl⟩ := hst.2.shape
  have key : ∀ a (z1 z2 : Value), w.heap[a]? = some (.cells #[z1, z2] 36 (0, 0)) → noU8 z1 = true → noU8 z2 = true → a ≠ p → a ≠ s → a ≠ q → w0.heap.size ≤ a →
      Sto ((w.setCell ⟨a, 0, none⟩ (.slice A3 k3 c3)).setCell ⟨a, 1, none⟩ (.slice R3 X.length e3)) s q p m B1 R (g : Nat) b d L ∧ Below w0.heap.size w0 ((w.setCell ⟨a, 0, none⟩ (.slice A3 k3 c3)).setCell ⟨a, 1, none⟩ (.slice R3 X.length e3)) ∧ ((w.setCell ⟨a, 0, none⟩ (.slice A3 k3 c3)).setCell ⟨a, 1, none⟩ (.slice R3 X.length e3)).heap[a]? = some (.cells #[.slice A3 k3 c3, .slice R3 X.length e3] 36 (0, 0)) ∧
      Bw w ((w.setCell ⟨a, 0, none⟩ (.slice A3 k3 c3)).setCell ⟨a, 1, none⟩ (.slice R3 X.length e3)) [a] := by
    intro a z1 z2 ha h1 h2 hp hs hq ha0
    have hb : Bw w ((w.setCell ⟨a, 0, none⟩ (.slice A3 k3 c3)).setCell ⟨a, 1, none⟩ (.slice R3 X.length e3)) [a] := (((Ow.refl w a).set 0 (.slice A3 k3 c3)).set 1 (.slice R3 X.length e3)).bw
    have c0 : w.cell? ⟨a, 0, none⟩ = some z1 := by rw [cell_blk ha]; rfl
    have hb1 : (w.setCell ⟨a, 0, none⟩ (.slice A3 k3 c3)).heap[a]? = some (.cells #[.slice A3 k3 c3, z2] 36 (0, 0)) := set_blk ha 0 _
    have c1' : (w.setCell ⟨a, 0, none⟩ (.slice A3 k3 c3)).cell? ⟨a, 1, none⟩ = some z2 := by rw [cell_blk hb1]; rfl
    refine ⟨⟨(h.sto.disk.set c0 h1 hp _).set c1' h2 hp _, (hb.block q h.sto.log.lt (by simpa using hq.symm)).trans h.sto.log, (hb.block s (lt_blk h.sto.st) (by simpa using hs.symm)).trans h.sto.st⟩, below_bw2 h.rd.below hb (by simp <;> omega), set_blk hb1 1 _, hb⟩
  have hr : ∀ {a : Nat} {z1 z2 v : Value} {S : List (List UInt8)}, w.heap[a]? = some (.cells #[z1, z2] 36 (0, 0)) → SRow w0 w w0.heap.size v S → ∀ k ∈ [a], v.ownBlock ≠ some k := by
    intro a z1 z2 v S ha hr k hk
    obtain rfl : k = a := by simpa using hk
    exact hr.ne ha (by decide)
  obtain ⟨x1, x2, x3, x4⟩ := key a1 _ _ h.rd.v1 rfl rfl n1.1 m1.1 m1.2 hn.2.2.1
  obtain ⟨y1, y2, y3, y4⟩ := key a2 _ _ h.rd.v2 rfl rfl n2.1 m2.1 m2.2 hn.2.2.2
  exact ⟨⟨x1, ⟨x1.disk, x2, h.rd.new, x3, (x4.block _ (lt_blk h.rd.v2) (by simpa using hne.symm)).trans h.rd.v2, ⟨hst.1, hst.2.bw x4 (hr h.rd.v1 hst.2)⟩, ⟨h.rd.ds.1, h.rd.ds.2.bw x4 (hr h.rd.v1 h.rd.ds.2)⟩⟩, hn, hne⟩,
    ⟨y1, ⟨y1.disk, y2, h.rd.new, (y4.block _ (lt_blk h.rd.v1) (by simpa using hne)).trans h.rd.v1, y3, ⟨h.rd.ns.1, h.rd.ns.2.bw y4 (hr h.rd.v2 h.rd.ns.2)⟩, ⟨hst.1, hst.2.bw y4 (hr h.rd.v2 hst.2)⟩⟩, hn, hne⟩⟩
end
/-- what the loop knows. -/
def PL (i R : Nat) (b : Bool) (d : Dk) (L : Lg) (g : Nat) (ns : List UInt8) (nS : List (List UInt8)) (ds : List UInt8) (dS : List (List UInt8)) : Prop :=
  (g ≤ i ∧ nS.length ≤ i ∧ dS.length ≤ i + 1 ∧ d.writes ≤ 4 * i + 3) ∧ L.Ok ∧ Outc R d ns nS ds dS ∧ ((b = false ∧ GS R d L g ns nS) ∨ b = true)
theorem Outc.used {R : Nat} {d : Dk} {ns : List UInt8} {nS : List (List UInt8)} {ds : List UInt8} {dS : List (List UInt8)} (h : Outc R d ns nS ds dS) : d.used ≤ R := by
  obtain ⟨g, s, S, X, hp, _⟩ := h
  exact hp.used
end Go.Proofs.YtegekaocbalndaaGreatDoor
end

section
set_option linter.unusedSimpArgs false
set_option linter.unusedVariables false
namespace Go.Proofs.YtegekaocbalndaaGreatDoor
open Go.RowKit

def BehF (w0 : World) (s : List UInt8) (S : List (List UInt8)) (v : Value) (W : World) : Prop := ∃ u r, v = .agg #[u, r] ∧ StV2 w0 W u r s S
theorem BehF.keepsS (w0 : World) (s : List UInt8) (S : List (List UInt8)) : KeepsS (BehF w0 s S) := by
  rintro v W W' ⟨u, r, h1, h2⟩ hb
  exact ⟨u, r, h1, h2.below hb⟩
theorem Sps.at {w : World} {A : Option Addr} {l : List Sp} (h : Sps w w.heap.size A l) {i : Nat} (hi : i < l.length) : ∃ b off Ai ci, A = some ⟨b, off, none⟩ ∧ (Ai = none → (l.getD i sp0).2 = []) ∧ Bs w w.heap.size Ai (l.getD i sp0).2 ∧
    ∀ W, Below w.heap.size w W → W.cell? ⟨b, off + i * 2, none⟩ = some (.bool (l.getD i sp0).1) ∧ W.cell? ⟨b, off + i * 2 + 1, none⟩ = some (.slice Ai (l.getD i sp0).2.length ci) := by
  obtain ⟨b, off, Ai, ci, e, hb, h1, h2, h3, h4⟩ := h i hi
  exact ⟨b, off, Ai, ci, e, h4, h3, fun W hW => ⟨(hW.cell (p := ⟨b, _, none⟩) hb).trans h1, (hW.cell (p := ⟨b, _, none⟩) hb).trans h2⟩⟩
theorem CS.c1 {w0 w : World} {p m s q a1 a2 R g : Nat} {b : Bool} {d : Dk} {L : Lg} {nu nr du dr : Value} {ns ds : List UInt8} {nS dS : List (List UInt8)} (h : CS w0 w p m s q a1 a2 R g b d L nu nr du dr ns nS ds dS) : w.cell? ⟨a1, 0, none⟩ = some nu ∧ w.cell? ⟨a1, 1, none⟩ = some nr ∧ w.cell? ⟨a2, 0, none⟩ = some du ∧ w.cell? ⟨a2, 1, none⟩ = some dr ∧ (∀ i, w.frozen? ⟨a1, i, none⟩ = false) ∧ ∀ i, w.frozen? ⟨a2, i, none⟩ = false :=
  ⟨h.rd.c1.1, h.rd.c1.2, h.rd.c2.1, h.rd.c2.2, fun i => free_blk h.rd.v1 i, fun i => free_blk h.rd.v2 i⟩
theorem lfits_gs {R : Nat} {d : Dk} {L : Lg} {g : Nat} {s : List UInt8} {S : List (List UInt8)} (h : GS R d L g s S) (k : Nat) (hk : k ≤ 300) : lfits L k = decide ((framesL S).length + (k + 12) ≤ R / 3) := by
  obtain ⟨_, hL, _⟩ := h
  subst hL
  unfold lfits
  simp only []
  rw [decide_eq_decide]
  omega
theorem gs_empty {R : Nat} (hR : 100 ≤ R ∧ R ≤ 5000) : GS R (emptyDk 20000) ⟨logN B1 0, R / 3, 0, 0, false⟩ 0 [] [] :=
  ⟨⟨Nat.zero_le _, (fun x h => by cases h), (fun r h => by simp at h), fun x h => by cases h⟩, rfl, none, none, ⟨emptyDk_ok 20000 (by decide), rfl, (fun k => by
    unfold vw
    show (none : Option Fl) = _
    repeat (first | rfl | (split; · rfl))), by decide⟩, .inl ⟨rfl, rfl, rfl⟩, .inl ⟨rfl, rfl, rfl⟩⟩
/-- what is told behind the round's call. -/
theorem PL.same {i R : Nat} {b : Bool} {d : Dk} {L : Lg} {g : Nat} {ns ds : List UInt8} {nS dS : List (List UInt8)} (h : PL i R b d L g ns nS ds dS) : PL (i + 1) R b d L g ns nS ds dS := by
  obtain ⟨⟨h1, h2, h3, h4⟩, h5⟩ := h
  exact ⟨⟨by omega, by omega, by omega, by omega⟩, h5⟩
theorem PL.good {i R : Nat} {d d' : Dk} {L L' : Lg} {g g' : Nat} {ns ds ns' : List UInt8} {nS dS nS' : List (List UInt8)} {b : Bool} (hR : R ≤ 5000) (h : PL i R b d L g ns nS ds dS) (hG : GS R d' L' g' ns' nS') (hg : g' ≤ g + 1) (hn : nS'.length ≤ nS.length + 1) (hw : Wn d d' 4) : PL (i + 1) R false d' L' g' ns' nS' ns' nS' := by
  obtain ⟨⟨h1, h2, h3, h4⟩, h5⟩ := h
  have := hw.few
  exact ⟨⟨by omega, by omega, by omega, by omega⟩, hG.lok hR, hG.outc _ _, .inl ⟨rfl, hG⟩⟩
theorem PL.fail {i R : Nat} {d d' : Dk} {L L' : Lg} {g g' : Nat} {ns ds ds' : List UInt8} {nS dS dS' : List (List UInt8)} {b : Bool} (h : PL i R b d L g ns nS ds dS) (hL : L'.Ok) (ho : Outc R d' ns nS ds' dS') (hg : g' ≤ g + 1) (hn : dS'.length ≤ nS.length + 1) (hw : Wn d d' 4) : PL (i + 1) R true d' L' g' ns nS ds' dS' := by
  obtain ⟨⟨h1, h2, h3, h4⟩, h5⟩ := h
  have := hw.few
  exact ⟨⟨by omega, by omega, by omega, by omega⟩, hL, ho, .inr rfl⟩
theorem outc_commit {R : Nat} {d : Dk} {g : Nat} {s x : List UInt8} {S : List (List UInt8)} (h : PS false R d g s S (some x)) : Outc R d s S s (S ++ [x]) :=
  ⟨g, s, S, some x, h, fun S' hS => by
    rcases hS with rfl | ⟨y, hy, rfl⟩
    · exact .inl ⟨rfl, rfl⟩
    · cases hy; exact .inr ⟨rfl, rfl⟩⟩
theorem outc_compact {R : Nat} {d : Dk} {g : Nat} {s x : List UInt8} {S : List (List UInt8)} (h : PS false R d g s S none ∨ PS false R d (g + 1) x [] none) : Outc R d s S x [] := by
  rcases h with h | h
  · exact ⟨g, s, S, none, h, fun S' hS => by
      rcases hS with rfl | ⟨y, hy, _⟩
      · exact .inl ⟨rfl, rfl⟩
      · cases hy⟩
  · exact ⟨g + 1, x, [], none, h, fun S' hS => by
      rcases hS with rfl | ⟨y, hy, _⟩
      · exact .inr ⟨rfl, rfl⟩
      · cases hy⟩
set_option maxRecDepth 100000 in
set_option maxHeartbeats 8000000 in
theorem storecrash_in (R : Nat) (hR : 100 ≤ R ∧ R ≤ 5000) (stop : Nat) (hst : (stop : Int) ≤ 9223372036854775807) (again : Nat) (ha : (again : Int) ≤ 9223372036854775807) (l : List Sp) (A : Option Addr) (cap nl : Nat) (hnl : nl = l.length) (h30 : nl ≤ 30)
    (t : List Int) (tn : Nat) (htn : tn = t.length) (htl : tn ≤ 4611686018427387904) (T : Option Addr) (tc : Nat) (t2 : List Int) (un : Nat) (hun : un = t2.length) (hul : un ≤ 4611686018427387904) (U : Option Addr) (uc : Nat) (w : World) (hA : Sps w w.heap.size A l) (hT : Zs w w.heap.size T t) (hU : Zs w w.heap.size U t2) :
    Calls Tryz.prog 3 #[.slice A nl cap, .int .i64 R, .int .i64 stop, .int .i64 again, .slice T tn tc, .slice U un uc] w fun e w' => e = .returned (.bool true) ∧ Below w.heap.size w w' := by
  have HAW := Lib.hid (awake22 w)
  have HA := Lib.hid hA; have HT := Lib.hid hT; have HU := Lib.hid hU; have HNL0 := Lib.hid hnl; have HTN := Lib.hid htn; have HUN := Lib.hid hun
  clear hA hT hU hnl htn hun
  obtain ⟨hR1, hR2⟩ := hR
  have HRR : Hid (100 ≤ R ∧ R ≤ 5000) := Lib.hid ⟨hR1, hR2⟩
  go_enter Tryz.func3, Tryz.ntmps3
  go_wp2_with fail
  refine HAW.out.mono ?_
  rintro e w1 ⟨rfl, hb⟩
  have HB1 := Lib.hid hb
  have HNW := Lib.hid (new_at 20000 (by decide) (by decide) w1)
  clear hb HAW
  go_wp2_with fail
  refine HNW.out.mono ?_
  rintro e w2 ⟨rfl, hd2, hb2⟩
  have HD2 := Lib.hid hd2; have HB2 := Lib.hid (HB1.out.trans (hb2.mono HB1.out.size))
  have hz1 := HB1.out.size
  have hp1 : w.heap.size ≤ w1.heap.size + 1 := by omega
  have HOP := sopenR_at hd2 (by decide) R HRR.out (gs_empty HRR.out).ps
  obtain ⟨ps1, wn1, hok1⟩ := sopen_ps HRR.out (gs_empty HRR.out).ps
  obtain ⟨he1, L1, S1, hl1, hls1, hS1, hG1⟩ := hok1 rfl
  have hleft := wn1.pow rfl
  obtain rfl : S1 = [] := by
    rcases hS1 with h | ⟨x, hx, _⟩
    · exact h
    · cases hx
  have hwr : (sopenR (emptyDk 20000) R 0).d.writes ≤ 3 := by have := wn1.few; simpa [emptyDk] using this
  have hstr : str B1 = ⟨#[116, 49]⟩ := rfl
  rw [hstr] at HOP
  generalize sopenR (emptyDk 20000) R 0 = r1 at *
  obtain ⟨d1, l1, ls1, z1⟩ := r1
  simp only at he1 hl1 hls1 hG1 hleft hwr
  subst he1 hl1 hls1
  have HOP := Lib.hid HOP; have HG1 := Lib.hid hG1
  clear hd2 hb2 HNW ps1 wn1 hok1 hS1 hG1 hstr
  generalize w1.heap.size + 1 = p at *
  generalize hm0 : w1.heap.size = m at *
  have hm1 : w.heap.size ≤ m := hz1
  clear hm0 hz1
  go_wp2_with fail
  refine HOP.out.mono ?_
  rintro e w3 ⟨hd3, hdw3, pv, As, sl, cs, Ar, ll, c, rfl, hok⟩
  obtain ⟨hsl, hll, _, _, _, _, s, q, rfl, hst3, hlg3, hs3, hq3, _⟩ := hok rfl
  have hz2 := HB2.out.size
  have HN3 : Hid (w.heap.size ≤ q ∧ w.heap.size ≤ s) := Lib.hid ⟨by omega, by omega⟩
  have HS3 : Hid (Sto w3 s q p m B1 R (0 : Nat) false d1 L1) := Lib.hid ⟨hd3, hlg3, hst3⟩
  have HB3 : Hid (Below w.heap.size w w3) := Lib.hid (below_bw2 HB2.out hdw3.bw (by simp <;> omega))
  have hstd : d1.stop stop = (⟨d1.size, d1.fs, stop, d1.writes⟩, 0) := by
    unfold Dk.stop
    rw [if_neg (by omega), if_neg (by rw [hleft]; decide)]
  have HSTP := stop_at hd3 stop hst
  rw [hstd] at HSTP
  have HSTP := Lib.hid HSTP
  have HG0 : Hid (GS R ⟨d1.size, d1.fs, stop, d1.writes⟩ L1 0 [] []) := Lib.hid (HG1.out.left stop ⟨by omega, hst⟩ d1.writes)
  have hw0 : (⟨d1.size, d1.fs, (stop : Int), d1.writes⟩ : Dk).writes ≤ 3 := hwr
  clear hd3 hok hsl hll hst3 hlg3 hs3 hq3 HOP hstd HG1 HD2 HB2 hleft hwr
  generalize (⟨d1.size, d1.fs, (stop : Int), d1.writes⟩ : Dk) = d0 at *
  go_wp2_with fail
  refine HSTP.out.mono ?_
  rintro e w4 ⟨rfl, hd4, hdw4⟩
  have HS4 : Hid (Sto w4 s q p m B1 R (0 : Nat) false d0 L1) := Lib.hid ⟨hd4, (hdw4.block _ HS3.out.log.lt (HS3.out.log.ne HS3.out.disk).1 (HS3.out.log.ne HS3.out.disk).2).trans HS3.out.log, HS3.out.st.keep HS3.out.disk hdw4⟩
  have HB4 : Hid (Below w.heap.size w w4) := Lib.hid (below_bw2 HB3.out hdw4.bw (by simp <;> omega))
  clear hd4 hdw4 HSTP HS3 HB3
  go_wp2_with fail
  obtain ⟨b0_, b1_, hb_⟩ := boxes2 w4 (.cells #[.slice none 0 0, .slice none 0 0] 36) (.cells #[.slice none 0 0, .slice none 0 0] 36)
  generalize (w4.alloc (.cells #[.slice none 0 0, .slice none 0 0] 36)).alloc (.cells #[.slice none 0 0, .slice none 0 0] 36) = w5 at *
  have T1b : Hid (∀ W, Below w5.heap.size w5 W → W.heap[w4.heap.size]? = some (.cells #[.slice none 0 0, .slice none 0 0] 36 (0, 0))) := Lib.hid (fun W hW => (hW.block _ (lt_blk b0_)).trans b0_)
  have T1 : Hid (∀ W, Below w5.heap.size w5 W → W.cell? ⟨w4.heap.size, 0, none⟩ = some (.slice none 0 0) ∧ W.cell? ⟨w4.heap.size, 1, none⟩ = some (.slice none 0 0)) := Lib.hid (fun W hW => by have e := (hW.block _ (lt_blk b0_)).trans b0_; exact ⟨by rw [cell_blk e]; rfl, by rw [cell_blk e]; rfl⟩)
  have T2b : Hid (∀ W, Below w5.heap.size w5 W → W.heap[w4.heap.size + 1]? = some (.cells #[.slice none 0 0, .slice none 0 0] 36 (0, 0))) := Lib.hid (fun W hW => (hW.block _ (lt_blk b1_)).trans b1_)
  have T2 : Hid (∀ W, Below w5.heap.size w5 W → W.cell? ⟨w4.heap.size + 1, 0, none⟩ = some (.slice none 0 0) ∧ W.cell? ⟨w4.heap.size + 1, 1, none⟩ = some (.slice none 0 0)) := Lib.hid (fun W hW => by have e := (hW.block _ (lt_blk b1_)).trans b1_; exact ⟨by rw [cell_blk e]; rfl, by rw [cell_blk e]; rfl⟩)
  have HB5 := Lib.hid hb_
  clear hb_ b0_ b1_
  have HCS : Hid (CS w w5 p m s q w4.heap.size (w4.heap.size + 1) R 0 false d0 L1 (.slice none 0 0) (.slice none 0 0) (.slice none 0 0) (.slice none 0 0) [] [] [] []) := Lib.hid (by
    have hz4 := HB4.out.size
    have hs5 := HS4.out.below HB5.out
    exact ⟨hs5, ⟨hs5.disk, HB4.out.trans (HB5.out.mono HB4.out.size), ⟨hp1, hm1⟩, T1b.out w5 (Below.refl _ _), T2b.out w5 (Below.refl _ _), ⟨SnV.nil _, .nil _ _ _⟩, ⟨SnV.nil _, .nil _ _ _⟩⟩, ⟨HN3.out.1, HN3.out.2, by omega, by omega⟩, by omega⟩)
  have HPL : Hid (PL 0 R false d0 L1 0 [] [] [] []) := Lib.hid ⟨⟨by omega, by simp, by simp, by omega⟩, HG0.out.lok HRR.out.2, HG0.out.outc _ _, .inl ⟨rfl, HG0.out⟩⟩
  clear HS4 HB4 HB5 T1 T2 T1b T2b HG0 HN3
  generalize w4.heap.size + 1 = a2 at *
  generalize w4.heap.size = a1 at *
  go_loopw [22, 23, 24, 25] (fun iv _ _ _ wr => ∃ (i : Nat) (d : Dk) (L : Lg) (g q : Nat) (b : Bool) (nu nr du dr : Value) (ns : List UInt8) (nS : List (List UInt8)) (ds : List UInt8) (dS : List (List UInt8)), i ≤ nl ∧ iv = .int .i64 i ∧ CS w wr p m s q a1 a2 R g b d L nu nr du dr ns nS ds dS ∧ PL i R b d L g ns nS ds dS) (fun iv _ _ _ _ => nl - (intOf iv).toNat)
  case atStart => exact ⟨0, _, _, _, _, _, _, _, _, _, _, _, _, _, by omega, rfl, HCS.out, HPL.out⟩
  case round =>
    obtain ⟨i, d, L, g, q, b, nu, nr, du, dr, ns, nS, ds, dS, hi, rfl, hcs, hpl⟩ := hrel
    clear HCS HPL
    by_cases hlt : i < nl
    · obtain ⟨bl, off, Ai, ci, rfl, hnil, hbs, hcell⟩ := Sps.at HA.out (i := i) (by have := HNL0.out; omega)
      have HNIL := Lib.hid hnil; have HBS := Lib.hid hbs; have HCELL := Lib.hid hcell
      clear hnil hbs hcell
      generalize l.getD i sp0 = sp at *
      obtain ⟨cb, x⟩ := sp
      simp only at HNIL HBS HCELL
      obtain ⟨k, hk⟩ : ∃ k, k = x.length := ⟨_, rfl⟩
      rw [← hk] at HCELL
      have HK := Lib.hid hk
      clear hk
      have hq1 : (i : Int) < (nl : Int) := by omega
      have HL := Lib.hid hcs; have HPL := Lib.hid hpl
      obtain ⟨⟨hg1, hn1, hd1, hwr1⟩, hlok, _, hab⟩ := hpl
      have HNL : Hid (nS.length ≤ 1000) := Lib.hid (by omega)
      have HLOK := Lib.hid hlok
      have HSHR : Hid (∃ A n c, nr = .slice A n c) := Lib.hid (by obtain ⟨A, c, e⟩ := hcs.rd.ns.2.shape; exact ⟨A, _, c, e⟩)
      have HFI0 := Lib.hid (sfits_at hcs.sto hlok (k : Int))
      clear hcs hlok
      have c1 := HCELL.out wr HL.out.rd.below
      obtain ⟨c1a, c1b⟩ := c1
      by_cases hlo : 300 < k
      · go_wp2_with fail
        go_ret
        exact ⟨rfl, HL.out.rd.below⟩
      rcases hab with ⟨rfl, hG⟩ | rfl
      · have HG := Lib.hid hG
        have HLF := Lib.hid (lfits_gs hG k (by omega))
        clear hG
        generalize lfits L k = fb at *
        go_wp2_with fail
        refine HFI0.out.mono ?_
        rintro e w5 ⟨rfl, hb5⟩
        have HL5 := Lib.hid (HL.out.after hb5)
        obtain ⟨c2a, c2b⟩ := HCELL.out w5 HL5.out.rd.below
        clear hb5 c1a c1b HL HFI0
        cases cb with
        | false =>
          have HCM := HL5.out.commit HLOK.out (by omega) x k HK.out Ai ci ((HBS.out.below HL5.out.rd.below).more HL5.out.rd.below.size) HNIL.out
          rcases commit_gs HRR.out HG.out x (by have := HK.out; omega) with ⟨hq, hc⟩ | ⟨hq, ⟨L', d', hc, hG', hwn⟩ | ⟨L', d', hc, hP, hbr, hwn⟩⟩
          · rw [hc] at HCM
            have hfb : fb = false := by rw [HLF.out]; exact decide_eq_false (by rw [HK.out]; omega)
            subst hfb
            have HCM := Lib.hid HCM
            clear hc hq
            go_wp2_with fail
            refine HCM.out.mono ?_
            rintro e w6 ⟨rfl, h6⟩
            have hLb : L.broken = false := by rw [HG.out.2.1]
            simp only at h6 ⊢
            rw [hLb] at h6
            have HX := Lib.hid h6; have HP := Lib.hid HPL.out.same
            clear h6 hLb HCM HL5 c2a c2b
            go_wp2_with fail
            have hub := HP.out.2.2.1.used
            refine (used_at HX.out.rd.disk).mono ?_
            rintro e w9 ⟨rfl, hb9⟩
            have HY := Lib.hid (HX.out.after hb9)
            clear hb9
            have HUB := hub
            clear hub
            generalize hus : Dk.used _ = us at HUB
            have HUB2 : ¬ ((R : Int) < (us : Int)) := by omega
            have HUB3 : decide ((R : Int) < (us : Int)) = false := decide_eq_false HUB2
            clear hus
            go_wp2_with fail
            go_roundw
            case rel => exact ⟨i + 1, _, _, _, _, _, _, _, _, _, _, _, _, _, by omega, by go_num, HY.out, HP.out⟩
            case measure => simp [intOf]; omega
          · rw [hc] at HCM
            simp only at HCM
            have hLb : L'.broken = false := by rw [hG'.2.1]
            rw [hLb] at HCM
            have HCM := Lib.hid HCM
            have HP : Hid (PL (i + 1) R false d' L' g ns (nS ++ [x]) ns (nS ++ [x])) := Lib.hid (HPL.out.good HRR.out.2 hG' (by omega) (by simp) (hwn.more (by omega)))
            clear hc hq hG' hwn hLb
            go_wp2_with fail
            refine HCM.out.mono ?_
            rintro e w6 ⟨rfl, h6⟩
            have HX := Lib.hid h6
            clear h6 HCM HL5 c2a c2b
            have T := Lib.hid (fun W (hW : Below w6.heap.size w6 W) => (HX.out.after hW).c1)
            have TC := Lib.hid (fun W (hW : Below w6.heap.size w6 W) => HCELL.out W (HX.out.rd.below.trans (hW.mono HX.out.rd.below.size)))
            go_upto_region 21 with (fail)
            apply wp_region_relS 8 [(Sum.inl _ : TT), (Sum.inl _ : TT), (Sum.inl _ : TT), (Sum.inl _ : TT), (Sum.inl _ : TT), (Sum.inl _ : TT), (Sum.inl _ : TT), .inr (BehF w ns (nS ++ [x]))] (by kernel_rfl) (by kernel_rfl) rfl
            simp only [List.take_succ_cons, List.take_zero, List.drop_succ_cons, List.drop_zero]
            iterate 7 (apply rel_isS; (intro W hW hf; obtain ⟨y1, y2, y3, y4, y5, y6⟩ := T.out W hW; have y7 := (TC.out W hW).1; go_simp; first | exact ⟨StayS.refl _ _, rfl⟩ | rfl); simp only [Act.put, List.setIfInBounds_toArray, List.set_cons_succ, List.set_cons_zero])
            refine rel_fitsS (fun W hW hf => rel_callS hW rfl (by go_simp <;> first | rfl | exact ⟨rfl, rfl⟩ | exact ⟨rfl, rfl, rfl⟩) ((behind_commit (HX.out.rd.below.trans (hW.mono HX.out.rd.below.size)) nu nr ns nS (HX.out.rd.ns.below hW) HNL.out x k HK.out Ai ci HBS.out HNIL.out).mono fun e W' ⟨hb, u, r, he, hst⟩ => ⟨_, he, hb, u, r, rfl, hst⟩)) (BehF.keepsS _ _ _) fun v114 => ?_
            simp only [Act.put, List.setIfInBounds_toArray, List.set_cons_succ, List.set_cons_zero]
            refine rel_endS ?_
            intro W hW hf
            try simp only [Act.put, List.setIfInBounds_toArray, List.set_cons_succ, List.set_cons_zero]
            obtain ⟨u, r, rfl, hst⟩ := hf (114, BehF w ns (nS ++ [x]) v114) (by simp)
            have HXW := Lib.hid (HX.out.after hW); have HST := Lib.hid hst
            obtain ⟨Au, nu2, cu, rfl⟩ := hst.1.shape
            obtain ⟨Ar, nr2, cr, rfl⟩ : ∃ A n c, r = .slice A n c := by obtain ⟨A, c, e⟩ := hst.2.shape; exact ⟨A, _, c, e⟩
            clear hst hW hf T TC HX
            obtain ⟨y1, y2, y3, y4, y5, y6⟩ := HXW.out.c1
            go_upto_region 22 with (fail)
            have HX1 := Lib.hid (HXW.out.set HST.out).1
            have HST1 := Lib.hid HX1.out.rd.ns
            clear HXW HST y1 y2 y3 y4 y5 y6
            generalize (W.setCell ⟨a1, 0, none⟩ (.slice Au nu2 cu)).setCell ⟨a1, 1, none⟩ (.slice Ar nr2 cr) = w7 at *
            obtain ⟨y1, y2, y3, y4, y5, y6⟩ := HX1.out.c1
            go_upto_region 27 with (fail)
            have HX := Lib.hid (HX1.out.set HST1.out).2
            clear HX1 HST1 y1 y2 y3 y4 y5 y6
            generalize (w7.setCell ⟨a2, 0, none⟩ (.slice Au nu2 cu)).setCell ⟨a2, 1, none⟩ (.slice Ar nr2 cr) = w8 at *
            go_wp2_with fail
            have hub := HP.out.2.2.1.used
            refine (used_at HX.out.rd.disk).mono ?_
            rintro e w9 ⟨rfl, hb9⟩
            have HY := Lib.hid (HX.out.after hb9)
            clear hb9
            have HUB := hub
            clear hub
            generalize hus : Dk.used _ = us at HUB
            have HUB2 : ¬ ((R : Int) < (us : Int)) := by omega
            have HUB3 : decide ((R : Int) < (us : Int)) = false := decide_eq_false HUB2
            clear hus
            go_wp2_with fail
            go_roundw
            case rel => exact ⟨i + 1, _, _, _, _, _, _, _, _, _, _, _, _, _, by omega, by go_num, HY.out, HP.out⟩
            case measure => simp [intOf]; omega
          · rw [hc] at HCM
            simp only at HCM
            rw [hbr] at HCM
            have HCM := Lib.hid HCM
            have HP : Hid (PL (i + 1) R true d' L' g ns nS ns (nS ++ [x])) := Lib.hid (HPL.out.fail (lcommit_ok HLOK.out hc) (outc_commit hP) (by omega) (by simp) (hwn.more (by omega)))
            clear hc hq hP hwn hbr
            go_wp2_with fail
            refine HCM.out.mono ?_
            rintro e w6 ⟨rfl, h6⟩
            have HX := Lib.hid h6
            clear h6 HCM HL5 c2a c2b
            have T := Lib.hid (fun W (hW : Below w6.heap.size w6 W) => (HX.out.after hW).c1)
            have TC := Lib.hid (fun W (hW : Below w6.heap.size w6 W) => HCELL.out W (HX.out.rd.below.trans (hW.mono HX.out.rd.below.size)))
            go_upto_region 24 with (fail)
            apply wp_region_relS 8 [(Sum.inl _ : TT), (Sum.inl _ : TT), (Sum.inl _ : TT), (Sum.inl _ : TT), (Sum.inl _ : TT), (Sum.inl _ : TT), (Sum.inl _ : TT), .inr (BehF w ns (nS ++ [x]))] (by kernel_rfl) (by kernel_rfl) rfl
            simp only [List.take_succ_cons, List.take_zero, List.drop_succ_cons, List.drop_zero]
            iterate 7 (apply rel_isS; (intro W hW hf; obtain ⟨y1, y2, y3, y4, y5, y6⟩ := T.out W hW; have y7 := (TC.out W hW).1; go_simp; first | exact ⟨StayS.refl _ _, rfl⟩ | rfl); simp only [Act.put, List.setIfInBounds_toArray, List.set_cons_succ, List.set_cons_zero])
            refine rel_fitsS (fun W hW hf => rel_callS hW rfl (by go_simp <;> first | rfl | exact ⟨rfl, rfl⟩ | exact ⟨rfl, rfl, rfl⟩) ((behind_commit (HX.out.rd.below.trans (hW.mono HX.out.rd.below.size)) nu nr ns nS (HX.out.rd.ns.below hW) HNL.out x k HK.out Ai ci HBS.out HNIL.out).mono fun e W' ⟨hb, u, r, he, hst⟩ => ⟨_, he, hb, u, r, rfl, hst⟩)) (BehF.keepsS _ _ _) fun v114 => ?_
            simp only [Act.put, List.setIfInBounds_toArray, List.set_cons_succ, List.set_cons_zero]
            refine rel_endS ?_
            intro W hW hf
            try simp only [Act.put, List.setIfInBounds_toArray, List.set_cons_succ, List.set_cons_zero]
            obtain ⟨u, r, rfl, hst⟩ := hf (125, BehF w ns (nS ++ [x]) v114) (by simp)
            have HXW := Lib.hid (HX.out.after hW); have HST := Lib.hid hst
            obtain ⟨Au, nu2, cu, rfl⟩ := hst.1.shape
            obtain ⟨Ar, nr2, cr, rfl⟩ : ∃ A n c, r = .slice A n c := by obtain ⟨A, c, e⟩ := hst.2.shape; exact ⟨A, _, c, e⟩
            clear hst hW hf T TC HX
            obtain ⟨y1, y2, y3, y4, y5, y6⟩ := HXW.out.c1
            go_upto_region 27 with (fail)
            have HX := Lib.hid (HXW.out.set HST.out).2
            clear HXW HST y1 y2 y3 y4 y5 y6
            generalize (W.setCell ⟨a2, 0, none⟩ (.slice Au nu2 cu)).setCell ⟨a2, 1, none⟩ (.slice Ar nr2 cr) = w8 at *
            go_wp2_with fail
            have hub := HP.out.2.2.1.used
            refine (used_at HX.out.rd.disk).mono ?_
            rintro e w9 ⟨rfl, hb9⟩
            have HY := Lib.hid (HX.out.after hb9)
            clear hb9
            have HUB := hub
            clear hub
            generalize hus : Dk.used _ = us at HUB
            have HUB2 : ¬ ((R : Int) < (us : Int)) := by omega
            have HUB3 : decide ((R : Int) < (us : Int)) = false := decide_eq_false HUB2
            clear hus
            go_wp2_with fail
            go_roundw
            case rel => exact ⟨i + 1, _, _, _, _, _, _, _, _, _, _, _, _, _, by omega, by go_num, HY.out, HP.out⟩
            case measure => simp [intOf]; omega
        | true =>
          have HSM := Lib.hid (fun W (hW : CS w W p m s q a1 a2 R g false d L nu nr du dr ns nS ds dS) => ssmallm_at hW.sto.st (by omega) k (by omega))
          cases hsmb : smallB k R with
          | false =>
            have HSB := Lib.hid hsmb
            go_wp2_with fail
            refine (HSM.out w5 HL5.out).mono ?_
            rintro e w5b ⟨rfl, hb⟩
            rw [HSB.out]
            have HL5b := Lib.hid (HL5.out.after hb)
            obtain ⟨c3a, c3b⟩ := HCELL.out w5b HL5b.out.rd.below
            have HCM := Lib.hid (scompact_quota HL5b.out.sto.st (by omega) Ai k ci (by omega) HSB.out)
            clear hb HSM HL5 c2a c2b hsmb
            go_wp2_with fail
            refine HCM.out.mono ?_
            rintro e w6 ⟨rfl, h6⟩
            have HX := Lib.hid (HL5b.out.after h6); have HP := Lib.hid HPL.out.same
            clear h6 HCM HL5b c3a c3b
            go_wp2_with fail
            have hub := HP.out.2.2.1.used
            refine (used_at HX.out.rd.disk).mono ?_
            rintro e w9 ⟨rfl, hb9⟩
            have HY := Lib.hid (HX.out.after hb9)
            clear hb9
            have HUB := hub
            clear hub
            generalize hus : Dk.used _ = us at HUB
            have HUB2 : ¬ ((R : Int) < (us : Int)) := by omega
            have HUB3 : decide ((R : Int) < (us : Int)) = false := decide_eq_false HUB2
            clear hus
            go_wp2_with fail
            go_roundw
            case rel => exact ⟨i + 1, _, _, _, _, _, _, _, _, _, _, _, _, _, by omega, by go_num, HY.out, HP.out⟩
            case measure => simp [intOf]; omega
          | true =>
            have HSB := Lib.hid hsmb
            have HCF := Lib.hid (fun W (hW : CS w W p m s q a1 a2 R g false d L nu nr du dr ns nS ds dS) => hW.compact HRR.out HG.out (by omega) (by omega) x k HK.out (by omega) Ai ci ((HBS.out.below hW.rd.below).more hW.rd.below.size) HNIL.out HSB.out)
            go_wp2_with fail
            refine (HSM.out w5 HL5.out).mono ?_
            rintro e w5b ⟨rfl, hb⟩
            rw [HSB.out]
            have HL5b := Lib.hid (HL5.out.after hb)
            obtain ⟨c3a, c3b⟩ := HCELL.out w5b HL5b.out.rd.below
            clear hb HSM HL5 c2a c2b hsmb
            go_wp2_with fail
            refine (HCF.out w5b HL5b.out).mono ?_
            rintro e w6 ⟨z, d', g', L'', q', rfl, ⟨hwn, hres⟩, hlok, hg', h6⟩
            clear HCF HL5b c3a c3b
            rcases hres with ⟨rfl, rfl, hG'⟩ | ⟨rfl, hres⟩
            · have hbk : brkB 0 d d' = false := rfl
              rw [hbk] at h6
              have HX := Lib.hid h6
              have HP : Hid (PL (i + 1) R false d' L'' (g + 1) x [] x []) := Lib.hid (HPL.out.good HRR.out.2 hG' (by omega) (by simp) hwn)
              clear h6 hbk hG' hwn hlok hg' 
              have T := Lib.hid (fun W (hW : Below w6.heap.size w6 W) => (HX.out.after hW).c1)
              have TC := Lib.hid (fun W (hW : Below w6.heap.size w6 W) => HCELL.out W (HX.out.rd.below.trans (hW.mono HX.out.rd.below.size)))
              go_upto_region 21 with (fail)
              apply wp_region_relS 8 [(Sum.inl _ : TT), (Sum.inl _ : TT), (Sum.inl _ : TT), (Sum.inl _ : TT), (Sum.inl _ : TT), (Sum.inl _ : TT), (Sum.inl _ : TT), .inr (BehF w x ([]))] (by kernel_rfl) (by kernel_rfl) rfl
              simp only [List.take_succ_cons, List.take_zero, List.drop_succ_cons, List.drop_zero]
              iterate 7 (apply rel_isS; (intro W hW hf; obtain ⟨y1, y2, y3, y4, y5, y6⟩ := T.out W hW; have y7 := (TC.out W hW).1; go_simp; first | exact ⟨StayS.refl _ _, rfl⟩ | rfl); simp only [Act.put, List.setIfInBounds_toArray, List.set_cons_succ, List.set_cons_zero])
              refine rel_fitsS (fun W hW hf => rel_callS hW rfl (by go_simp <;> first | rfl | exact ⟨rfl, rfl⟩ | exact ⟨rfl, rfl, rfl⟩) ((behind_compact (HX.out.rd.below.trans (hW.mono HX.out.rd.below.size)) nu nr HX.out.rd.ns.1.shape HSHR.out x k HK.out Ai ci HBS.out HNIL.out).mono fun e W' ⟨hb, u, r, he, hst⟩ => ⟨_, he, hb, u, r, rfl, hst⟩)) (BehF.keepsS _ _ _) fun v114 => ?_
              simp only [Act.put, List.setIfInBounds_toArray, List.set_cons_succ, List.set_cons_zero]
              refine rel_endS ?_
              intro W hW hf
              try simp only [Act.put, List.setIfInBounds_toArray, List.set_cons_succ, List.set_cons_zero]
              obtain ⟨u, r, rfl, hst⟩ := hf (114, BehF w x ([]) v114) (by simp)
              have HXW := Lib.hid (HX.out.after hW); have HST := Lib.hid hst
              obtain ⟨Au, nu2, cu, rfl⟩ := hst.1.shape
              obtain ⟨Ar, nr2, cr, rfl⟩ : ∃ A n c, r = .slice A n c := by obtain ⟨A, c, e⟩ := hst.2.shape; exact ⟨A, _, c, e⟩
              clear hst hW hf T TC HX
              obtain ⟨y1, y2, y3, y4, y5, y6⟩ := HXW.out.c1
              go_upto_region 22 with (fail)
              have HX1 := Lib.hid (HXW.out.set HST.out).1
              have HST1 := Lib.hid HX1.out.rd.ns
              clear HXW HST y1 y2 y3 y4 y5 y6
              generalize (W.setCell ⟨a1, 0, none⟩ (.slice Au nu2 cu)).setCell ⟨a1, 1, none⟩ (.slice Ar nr2 cr) = w7 at *
              obtain ⟨y1, y2, y3, y4, y5, y6⟩ := HX1.out.c1
              go_upto_region 27 with (fail)
              have HX := Lib.hid (HX1.out.set HST1.out).2
              clear HX1 HST1 y1 y2 y3 y4 y5 y6
              generalize (w7.setCell ⟨a2, 0, none⟩ (.slice Au nu2 cu)).setCell ⟨a2, 1, none⟩ (.slice Ar nr2 cr) = w8 at *
              go_wp2_with fail
              have hub := HP.out.2.2.1.used
              refine (used_at HX.out.rd.disk).mono ?_
              rintro e w9 ⟨rfl, hb9⟩
              have HY := Lib.hid (HX.out.after hb9)
              clear hb9
              have HUB := hub
              clear hub
              generalize hus : Dk.used _ = us at HUB
              have HUB2 : ¬ ((R : Int) < (us : Int)) := by omega
              have HUB3 : decide ((R : Int) < (us : Int)) = false := decide_eq_false HUB2
              clear hus
              go_wp2_with fail
              go_roundw
              case rel => exact ⟨i + 1, _, _, _, _, _, _, _, _, _, _, _, _, _, by omega, by go_num, HY.out, HP.out⟩
              case measure => simp [intOf]; omega
            · have hbk : brkB 13 d d' = true := by unfold brkB; rw [decide_eq_true (by decide), decide_eq_true (by decide)]; rfl
              rw [hbk] at h6
              have HX := Lib.hid h6
              have HP : Hid (PL (i + 1) R true d' L'' g' ns nS x []) := Lib.hid (HPL.out.fail hlok (outc_compact hres) hg' (by simp) hwn)
              clear h6 hbk hres hwn hlok hg' 
              have T := Lib.hid (fun W (hW : Below w6.heap.size w6 W) => (HX.out.after hW).c1)
              have TC := Lib.hid (fun W (hW : Below w6.heap.size w6 W) => HCELL.out W (HX.out.rd.below.trans (hW.mono HX.out.rd.below.size)))
              go_upto_region 24 with (fail)
              apply wp_region_relS 8 [(Sum.inl _ : TT), (Sum.inl _ : TT), (Sum.inl _ : TT), (Sum.inl _ : TT), (Sum.inl _ : TT), (Sum.inl _ : TT), (Sum.inl _ : TT), .inr (BehF w x ([]))] (by kernel_rfl) (by kernel_rfl) rfl
              simp only [List.take_succ_cons, List.take_zero, List.drop_succ_cons, List.drop_zero]
              iterate 7 (apply rel_isS; (intro W hW hf; obtain ⟨y1, y2, y3, y4, y5, y6⟩ := T.out W hW; have y7 := (TC.out W hW).1; go_simp; first | exact ⟨StayS.refl _ _, rfl⟩ | rfl); simp only [Act.put, List.setIfInBounds_toArray, List.set_cons_succ, List.set_cons_zero])
              refine rel_fitsS (fun W hW hf => rel_callS hW rfl (by go_simp <;> first | rfl | exact ⟨rfl, rfl⟩ | exact ⟨rfl, rfl, rfl⟩) ((behind_compact (HX.out.rd.below.trans (hW.mono HX.out.rd.below.size)) nu nr HX.out.rd.ns.1.shape HSHR.out x k HK.out Ai ci HBS.out HNIL.out).mono fun e W' ⟨hb, u, r, he, hst⟩ => ⟨_, he, hb, u, r, rfl, hst⟩)) (BehF.keepsS _ _ _) fun v114 => ?_
              simp only [Act.put, List.setIfInBounds_toArray, List.set_cons_succ, List.set_cons_zero]
              refine rel_endS ?_
              intro W hW hf
              try simp only [Act.put, List.setIfInBounds_toArray, List.set_cons_succ, List.set_cons_zero]
              obtain ⟨u, r, rfl, hst⟩ := hf (125, BehF w x ([]) v114) (by simp)
              have HXW := Lib.hid (HX.out.after hW); have HST := Lib.hid hst
              obtain ⟨Au, nu2, cu, rfl⟩ := hst.1.shape
              obtain ⟨Ar, nr2, cr, rfl⟩ : ∃ A n c, r = .slice A n c := by obtain ⟨A, c, e⟩ := hst.2.shape; exact ⟨A, _, c, e⟩
              clear hst hW hf T TC HX
              obtain ⟨y1, y2, y3, y4, y5, y6⟩ := HXW.out.c1
              go_upto_region 27 with (fail)
              have HX := Lib.hid (HXW.out.set HST.out).2
              clear HXW HST y1 y2 y3 y4 y5 y6
              generalize (W.setCell ⟨a2, 0, none⟩ (.slice Au nu2 cu)).setCell ⟨a2, 1, none⟩ (.slice Ar nr2 cr) = w8 at *
              go_wp2_with fail
              have hub := HP.out.2.2.1.used
              refine (used_at HX.out.rd.disk).mono ?_
              rintro e w9 ⟨rfl, hb9⟩
              have HY := Lib.hid (HX.out.after hb9)
              clear hb9
              have HUB := hub
              clear hub
              generalize hus : Dk.used _ = us at HUB
              have HUB2 : ¬ ((R : Int) < (us : Int)) := by omega
              have HUB3 : decide ((R : Int) < (us : Int)) = false := decide_eq_false HUB2
              clear hus
              go_wp2_with fail
              go_roundw
              case rel => exact ⟨i + 1, _, _, _, _, _, _, _, _, _, _, _, _, _, by omega, by go_num, HY.out, HP.out⟩
              case measure => simp [intOf]; omega
      · generalize lfits L k = fb at *
        go_wp2_with fail
        refine HFI0.out.mono ?_
        rintro e w5 ⟨rfl, hb5⟩
        have HL5 := Lib.hid (HL.out.after hb5)
        obtain ⟨c2a, c2b⟩ := HCELL.out w5 HL5.out.rd.below
        clear hb5 c1a c1b HL HFI0
        cases cb with
        | false =>
          have HCM := Lib.hid (scommit_broken HL5.out.sto.st Ai k ci)
          go_wp2_with fail
          refine HCM.out.mono ?_
          rintro e w6 ⟨rfl, hw6⟩
          rw [hw6]
          have HX := HL5; have HP := Lib.hid HPL.out.same
          clear hw6 HCM c2a c2b
          go_wp2_with fail
          have hub := HP.out.2.2.1.used
          refine (used_at HX.out.rd.disk).mono ?_
          rintro e w9 ⟨rfl, hb9⟩
          have HY := Lib.hid (HX.out.after hb9)
          clear hb9
          have HUB := hub
          clear hub
          generalize hus : Dk.used _ = us at HUB
          have HUB2 : ¬ ((R : Int) < (us : Int)) := by omega
          have HUB3 : decide ((R : Int) < (us : Int)) = false := decide_eq_false HUB2
          clear hus
          go_wp2_with fail
          go_roundw
          case rel => exact ⟨i + 1, _, _, _, _, _, _, _, _, _, _, _, _, _, by omega, by go_num, HY.out, HP.out⟩
          case measure => simp [intOf]; omega
        | true =>
          have HSM := Lib.hid (ssmallm_at HL5.out.sto.st (by omega) k (by omega))
          generalize smallB k R = sb at *
          go_wp2_with fail
          refine HSM.out.mono ?_
          rintro e w5b ⟨rfl, hb⟩
          have HL5b := Lib.hid (HL5.out.after hb)
          obtain ⟨c3a, c3b⟩ := HCELL.out w5b HL5b.out.rd.below
          have HCM := Lib.hid (scompact_broken HL5b.out.sto.st Ai k ci)
          clear hb HSM HL5 c2a c2b
          go_wp2_with fail
          refine HCM.out.mono ?_
          rintro e w6 ⟨rfl, h6⟩
          have HX := Lib.hid (HL5b.out.after h6); have HP := Lib.hid HPL.out.same
          clear h6 HCM HL5b c3a c3b
          go_wp2_with fail
          have hub := HP.out.2.2.1.used
          refine (used_at HX.out.rd.disk).mono ?_
          rintro e w9 ⟨rfl, hb9⟩
          have HY := Lib.hid (HX.out.after hb9)
          clear hb9
          have HUB := hub
          clear hub
          generalize hus : Dk.used _ = us at HUB
          have HUB2 : ¬ ((R : Int) < (us : Int)) := by omega
          have HUB3 : decide ((R : Int) < (us : Int)) = false := decide_eq_false HUB2
          clear hus
          go_wp2_with fail
          go_roundw
          case rel => exact ⟨i + 1, _, _, _, _, _, _, _, _, _, _, _, _, _, by omega, by go_num, HY.out, HP.out⟩
          case measure => simp [intOf]; omega
    · obtain rfl : i = nl := by omega
      have HL := Lib.hid hcs
      obtain ⟨⟨hg1, hn1, hd1, hwr1⟩, _, hout, _⟩ := hpl
      have HRE := Lib.hid (fun W (hW : CS w W p m s q a1 a2 R g b d L nu nr du dr ns nS ds dS) => reopens_at hW.rd.disk hW.rd.below hW.rd.new hW.rd.ns hW.rd.ds (by omega) (by omega) R HRR.out hout (by omega) again ha t tn HTN.out htl T tc HT.out t2 un HUN.out hul U uc HU.out)
      clear hcs hout
      obtain ⟨y1, y2, y3, y4, y5, y6⟩ := HL.out.c1
      go_wp2_with fail
      refine (HRE.out wr HL.out).mono ?_
      rintro e w9 ⟨rfl, hb⟩
      have HB9 := Lib.hid hb
      clear hb HRE
      go_wp2_with fail
      go_ret
      exact ⟨rfl, HB9.out⟩
end Go.Proofs.YtegekaocbalndaaGreatDoor
end

section
set_option linter.unusedSimpArgs false
set_option linter.unusedVariables false
namespace Go.Proofs.YtegekaocbalndaaGreatDoor
open Go.RowKit

set_option maxRecDepth 100000 in
set_option maxHeartbeats 4000000 in
theorem storecrash_walk (l : List Sp) (A : Option Addr) (cap : Nat) (res stop again : Int) (t : List Int) (T : Option Addr) (tc : Nat) (t2 : List Int) (U : Option Addr) (uc : Nat) (w : World) (hA : Sps w w.heap.size A l) (hr : (-9223372036854775808 : Int) ≤ res ∧ res ≤ 9223372036854775807) (hs : (-9223372036854775808 : Int) ≤ stop ∧ stop ≤ 9223372036854775807) (ha : (-9223372036854775808 : Int) ≤ again ∧ again ≤ 9223372036854775807)
    (hT : Zs w w.heap.size T t) (hTl : t.length ≤ 140737488351232) (hU : Zs w w.heap.size U t2) (hUl : t2.length ≤ 140737488351232) :
    Calls Tryz.prog 3 #[.slice A l.length cap, .int .i64 res, .int .i64 stop, .int .i64 again, .slice T t.length tc, .slice U t2.length uc] w fun e w' => e = .returned (.bool true) ∧ Below w.heap.size w w' := by
  obtain ⟨nl, hnl⟩ : ∃ nl, nl = l.length := ⟨_, rfl⟩
  obtain ⟨tn, htn⟩ : ∃ tn, tn = t.length := ⟨_, rfl⟩
  obtain ⟨un, hun⟩ : ∃ un, un = t2.length := ⟨_, rfl⟩
  rw [← hnl]
  rw [← htn] at hTl ⊢
  rw [← hun] at hUl ⊢
  by_cases hin : nl ≤ 30 ∧ 100 ≤ res ∧ res ≤ 5000 ∧ 0 ≤ stop ∧ 0 ≤ again
  · obtain ⟨h1, h2, h3, h4, h5⟩ := hin
    obtain ⟨R, rfl⟩ : ∃ R : Nat, res = R := ⟨res.toNat, by omega⟩
    obtain ⟨P, rfl⟩ : ∃ P : Nat, stop = P := ⟨stop.toNat, by omega⟩
    obtain ⟨G, rfl⟩ : ∃ P : Nat, again = P := ⟨again.toNat, by omega⟩
    exact storecrash_in R ⟨by omega, by omega⟩ P hs.2 G ha.2 l A cap nl hnl h1 t tn htn (by omega) T tc t2 un hun (by omega) U uc w hA hT hU
  · have HAW := Lib.hid (awake22 w)
    clear hA hr hs hnl hT hU htn hun hTl hUl
    by_cases h1 : 30 < nl
    · skip
      go_enter Tryz.func3, Tryz.ntmps3
      go_wp2_with fail
      refine HAW.out.mono ?_
      rintro e w1 ⟨rfl, hb⟩
      have HB1 := Lib.hid hb
      clear hb HAW
      go_wp2_with fail
      go_ret
      exact ⟨rfl, HB1.out⟩
    by_cases h2 : res < 100
    · skip
      go_enter Tryz.func3, Tryz.ntmps3
      go_wp2_with fail
      refine HAW.out.mono ?_
      rintro e w1 ⟨rfl, hb⟩
      have HB1 := Lib.hid hb
      clear hb HAW
      go_wp2_with fail
      go_ret
      exact ⟨rfl, HB1.out⟩
    by_cases h3 : 5000 < res
    · skip
      go_enter Tryz.func3, Tryz.ntmps3
      go_wp2_with fail
      refine HAW.out.mono ?_
      rintro e w1 ⟨rfl, hb⟩
      have HB1 := Lib.hid hb
      clear hb HAW
      go_wp2_with fail
      go_ret
      exact ⟨rfl, HB1.out⟩
    by_cases h4 : stop < 0
    · skip
      go_enter Tryz.func3, Tryz.ntmps3
      go_wp2_with fail
      refine HAW.out.mono ?_
      rintro e w1 ⟨rfl, hb⟩
      have HB1 := Lib.hid hb
      clear hb HAW
      go_wp2_with fail
      go_ret
      exact ⟨rfl, HB1.out⟩
    have h5 : again < 0 := by omega
    go_enter Tryz.func3, Tryz.ntmps3
    go_wp2_with fail
    refine HAW.out.mono ?_
    rintro e w1 ⟨rfl, hb⟩
    have HB1 := Lib.hid hb
    clear hb HAW
    go_wp2_with fail
    go_ret
    exact ⟨rfl, HB1.out⟩
end Go.Proofs.YtegekaocbalndaaGreatDoor
end
