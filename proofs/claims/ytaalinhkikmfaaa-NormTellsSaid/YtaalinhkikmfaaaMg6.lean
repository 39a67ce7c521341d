/- several texts in one: norm.Levels: what its walk uses., norm.Levels: its rows sorted., norm.Levels: the walk. -/
import Derived.Test.YtaalinhkikmfaaaEl
import Derived.Test.YtaalinhkikmfaaaE4
import Derived.Test.YtaalinhkikmfaaaBx
section
set_option linter.unusedSimpArgs false
set_option linter.unusedVariables false
namespace Go.Proofs.Ytaalinhkikmfaaa
open Go.RowKit

/-- the level so far: of those of a list. -/
def mlv (l : List Ev) (ks : List Nat) : Nat := ks.foldl (fun m k => max m (lv l k + 1)) 0
theorem mlv_all (l : List Ev) (i : Nat) : mlv l (pastL l i) = lv l i := by
  rw [lv_eq]
  unfold mlv pastL top
  rw [List.foldl_filter]
theorem mlv_succ (l : List Ev) (ks : List Nat) {t : Nat} (ht : t < ks.length) : mlv l (ks.take (t + 1)) = max (mlv l (ks.take t)) (lv l ks[t] + 1) := by
  unfold mlv
  rw [List.take_add_one, List.getElem?_eq_getElem ht]
  simp only [Option.toList, List.foldl_append, List.foldl_cons, List.foldl_nil]
theorem mlv_le (l : List Ev) (i t : Nat) : mlv l ((pastL l i).take t) ≤ i := by
  have : ∀ (ks : List Nat), (∀ k ∈ ks, k < i) → mlv l ks ≤ i := by
    intro ks
    unfold mlv
    suffices ∀ (m0 : Nat), m0 ≤ i → (∀ k ∈ ks, k < i) → ks.foldl (fun m k => max m (lv l k + 1)) m0 ≤ i from this 0 (Nat.zero_le _)
    induction ks with
    | nil => intro m0 h _; exact h
    | cons a ks ih =>
      intro m0 h hk
      have h1 := hk a (by simp)
      have h2 := lv_le l a
      refine ih (max m0 (lv l a + 1)) (by omega) fun k hk2 => hk k (by simp [hk2])
  refine this _ fun k hk => ?_
  have := List.mem_of_mem_take hk
  have := (List.mem_filter.1 this).1
  exact List.mem_range.1 this
theorem past_lt {l : List Ev} {i k : Nat} (h : k ∈ pastL l i) : k < i := List.mem_range.1 (List.mem_filter.1 h).1
theorem lv_le_nlv (l : List Ev) (i : Nat) : lv l i ≤ nlvK l i := by
  rcases Nat.eq_zero_or_pos (lv l i) with h | h
  · omega
  · obtain ⟨j, h1, h2⟩ := lv_pred (l := l) (j := i) (k := lv l i - 1) (by omega)
    have := lv_lt_nlv (l := l) h1
    omega
theorem nlvK_next (l : List Ev) (i : Nat) : (if lv l i < nlvK l i then nlvK l i else nlvK l i + 1) = nlvK l (i + 1) := by
  rw [nlvK_succ]
  have := lv_le_nlv l i
  split <;> omega
theorem lat_upd (l : List Ev) (i k : Nat) : upd (lat l i) (lv l i) (lat l i (lv l i) ++ [i]) k = lat l (i + 1) k := by
  rw [lat_succ]
  by_cases e : k = lv l i
  · subst e; rw [upd_at, if_pos rfl]
  · rw [upd_ne _ _ e, if_neg (fun h => e h.symm), List.append_nil]
theorem lat_none {l : List Ev} {i k : Nat} (h : nlvK l i ≤ k) : lat l i k = [] := by
  unfold lat
  rw [List.filter_eq_nil_iff]
  intro j hj
  have := lv_lt_nlv (l := l) (List.mem_range.1 hj)
  simp; omega
theorem intKey : Maps.Keyed Try.prog 3 := Maps.int_keyed Try.underlying3
theorem kwf (k : Nat) (hk : k ≤ 1000000) : (Lit.int .i64 (k : Int)).wf = true := by
  simp only [Lit.wf, Bool.and_eq_true, decide_eq_true_eq]
  have h1 : IntKind.i64.min = -9223372036854775808 := by decide
  have h2 : IntKind.i64.max = 9223372036854775807 := by decide
  omega
theorem keyK (k : Nat) (hk : k ≤ 1000000) : keyOf Try.prog 3 (.int .i64 (k : Int)) = some (.int .i64 (k : Int)) := Maps.keyOf_int_mk Try.underlying3 (kwf k hk)
/-- Levels on its way. -/
structure VSt (l : List Ev) (L b m : Nat) (w2 : World) (lc : Nat → Nat) (i : Nat) (val : Nat → Value) (wr : World) : Prop where
  bel : Below w2.heap.size w2 wr
  lcs : LCt wr L m lc
  map : MapK Try.prog 3 wr b (nlvK l i) val
  nilv : ∀ k, nlvK l i ≤ k → val k = .slice none 0 0
  fam : Fam wr (b + 1) (m + 1) val (lat l i)
  spare : ∀ k, k < m + 1 → Spare (.int .i64 0) (lat l i k).length (val k) wr
variable {l : List Ev} {L b m i : Nat} {w2 wr : World} {lc : Nat → Nat} {val : Nat → Value}
theorem VSt.congr {lc' : Nat → Nat} (h : VSt l L b m w2 lc i val wr) (hl : ∀ k, k < m → lc k = lc' k) : VSt l L b m w2 lc' i val wr := ⟨h.bel, h.lcs.congr hl, h.map, h.nilv, h.fam, h.spare⟩
/-- a level is written. -/
theorem VSt.count (h : VSt l L b m w2 lc i val wr) (hL : L = w2.heap.size) (hb : b = L + 1) (k x : Nat) : VSt l L b m w2 (upd lc k x) i val (wr.setCell ⟨L, k, none⟩ (.int .i64 (x : Nat))) := by
  have hg : wr.grownBy (wr.setCell ⟨L, k, none⟩ (.int .i64 (x : Nat))) (some L) := grown_setCell (World.grownBy.refl wr (some L)) (p := ⟨L, k, none⟩) rfl _
  have hne : ∀ k, k < m + 1 → (val k).ownBlock = none ∨ (val k).ownBlock ≠ some L := fun k hk => by
    cases hv : (val k).ownBlock with
    | none => exact .inl rfl
    | some g => exact .inr fun e => by injection e with e; have := ((h.fam.own k hk).lt g hv).1; omega
  exact ⟨h.bel.grown hg h.bel.size (fun b e => by injection e with e; omega), h.lcs.set k x, h.map.at (hg.block b h.map.lt (by intro e; injection e with e; omega)), h.nilv, h.fam.kept hg hne, fun k hk => (h.spare k hk).kept hg (hne k hk)⟩
theorem VSt.drew (h : VSt l L b m w2 lc i val wr) : VSt l L b m w2 lc i val wr.drew := ⟨h.bel.drew, h.lcs, h.map.at rfl, h.nilv, h.fam.below (Below.refl _ _).drew, h.spare⟩
/-- 'm[r] = append(m[r], x)': the append, its spare cells told. -/
def AppSp (B : Nat) (v0 : Value) (xs : List Nat) (x : Nat) (v : Value) (W W' : World) : Prop := AppS B v0 xs x v W W' ∧ Spare (.int .i64 0) (xs.length + 1) v W'
theorem rel_appSJ {ops : Array Oper} {o : Oper} {a : Act} {INV : World → Prop} {FR : World → World → Prop} {p : PJ} {W : World} (hgd : o.guard = none) (s x : Operand)
    (ho : o.op = .call { callee := .builtin .append, args := #[s, x], argTypes := #[23, 23] }) (base : Nat) (v : Value) (n : Nat) (xs : List Value) (hs : a.eval s = v) (hown : W.ownsRow base 3 1 v n xs) (hsp : Spare (.int .i64 0) n v W) (g : Nat) (u : Nat) (hx : a.eval x = .slice (some ⟨g, 0, none⟩) 1 1) (hg : W.heap[g]? = some (.cells #[.int .i64 (u : Nat)] 3 (0, 0)))
    (h63 : n ≤ 1000000) (hbase : base ≤ W.heap.size)
    (h : ∀ v' w', w'.ownsRow base 3 1 v' (n + 1) (xs ++ [.int .i64 (u : Nat)]) → W.grownBy w' v.ownBlock → (v'.ownBlock = v.ownBlock ∨ ∃ g, v'.ownBlock = some g ∧ W.heap.size ≤ g) → (∀ k, v.ownBlock = some k → base ≤ k) → Spare (.int .i64 0) (n + 1) v' w' → GiveJ INV FR p W v' w') : relOpJ Try.prog INV FR ops o a p W := by
  have hcell : ∀ j y, [Value.int .i64 (u : Nat)][j]? = some y → W.cell? ((⟨g, 0, none⟩ : Addr).add j) = some y := by
    intro j y hy
    match j, hy with
    | 0, hy =>
      simp at hy; subst hy
      have hadd : (⟨g, 0, none⟩ : Addr).add 0 = ⟨g, 0, none⟩ := rfl
      rw [hadd, cell_blk hg]; rfl
  obtain ⟨v', w', hrun, h2, h3, h4⟩ := run_append_src EI W base o.type v n xs hown W.heap.size (some ⟨g, 0, none⟩) [.int .i64 (u : Nat)] 1 1 rfl (fun j y hy => ⟨g, 0, rfl, lt_blk hg, by
    have := hcell j y hy
    have hadd : (⟨g, 0, none⟩ : Addr).add j = ⟨g, 0 + j, none⟩ := by unfold Addr.add; split <;> simp_all
    rw [hadd] at this
    exact this⟩) (fun h => by cases h) (by simp [Value.oneCell']) (by omega) (by omega) hbase
  obtain ⟨v2, w2, r2, _, _, _, b3⟩ := run_append_spare EI W base o.type v n xs hown hsp ⟨g, 0, none⟩ 1 1 [.int .i64 (u : Nat)] rfl hcell (by simp [Value.oneCell']) (by omega) (by omega) hbase
  rw [hrun] at r2
  injection r2 with e1 e2
  subst e1; subst e2
  refine rel_valJ (v := v') (W' := w') (by simp [Region.wanted, hgd]) ?_ (h v' w' h2 h3 (h4.imp id fun e => ⟨_, e, Nat.le_refl _⟩) (fun k hk => (hown.lt k hk).1) b3)
  unfold execOp
  simp only [ho, resolve, invoke, builtin, Sem.run_bind, Sem.run_pure, Result.andThen_ok, List.map_toArray, List.map_cons, List.map_nil, hs, hx, hrun]
theorem wpList_storeK {ops : Array Oper} {rest : List Oper} {o : Oper} {a : Act} {Q : Exit → Act → World → Prop} {w : World} {K : Nat} {val : Nat → Value} (h : MapK Try.prog 3 w b K val) (hn : K ≤ 1000000) (k : Nat) (hkK : k ≤ K) (v : Value)
    (hg : o.guard = none) (mo x vo : Operand) (hop : o.op = Op.mapUpdate 73 mo x vo) (hm : a.eval mo = .map (some b)) (hx : a.eval x = .int .i64 (k : Nat)) (hvo : a.eval vo = v)
    (hK : ∀ w', MapK Try.prog 3 w' b (if k < K then K else K + 1) (upd val k v) → w.grownBy w' (some b) → wpList Try.prog ops Q rest (a.put o.dst undef) w') :
    wpList Try.prog ops Q (o :: rest) a w := by
  refine wpList_plain hg fun K' hK' => ?_
  obtain ⟨w', hrun, r1, r2⟩ := h.store intKey Try.underlying73 (by have : maxLen = 9223372036854775807 := rfl; omega) (keyK k (by omega)) hkK (v := v)
  unfold Oper.wp
  simp [execOp, hop, hm, hx, hvo, hrun, Result.andThen]
  exact hK' _ _ (hK w' r1 r2.grown)
theorem MapK.lookI {w : World} {K : Nat} {val : Nat → Value} (h : MapK Try.prog 3 w b K val) (hnil : ∀ k, K ≤ k → val k = .slice none 0 0) (k : Nat) (hk : k ≤ 1000000) : (Instr.lookup 73 (.map (some b)) (.int .i64 (k : Int)) false).run Try.prog w = .ok (val k) w := by
  have := h.look intKey Try.underlying73 (Try.zeroValue23 w) (keyK k hk)
  rw [this]
  by_cases hlt : k < K
  · rw [if_pos hlt]
  · rw [if_neg hlt, hnil k (by omega)]
def LevelsP (l : List Ev) (n : Int) (w : World) (r : Ending) (w' : World) : Prop :=
  Below w.heap.size w w' ∧ ((wrongE l n ≠ 0 ∧ r = .returned (.tuple #[.slice none 0 0, .int .i64 (wrongE l n : Nat)])) ∨
    (wrongE l n = 0 ∧ ∃ v val, r = .returned (.tuple #[v, .int .i64 0]) ∧ w'.ownsRow w.heap.size 23 1 v (nlv l) ((List.range (nlv l)).map val) ∧ Fam w' w.heap.size (nlv l) val (lrow l n.toNat) ∧ ∀ k, k < nlv l → Spare (.int .i64 0) (lrow l n.toNat k).length (val k) w'))
end Go.Proofs.Ytaalinhkikmfaaa
end

section
set_option linter.unusedSimpArgs false
set_option linter.unusedVariables false
namespace Go.Proofs.Ytaalinhkikmfaaa
open Go.RowKit

theorem MapK.len {P : Program} {kt t e : TypeId} {w : World} {m K : Nat} {val : Nat → Value} (h : MapK P kt w m K val) (ht : P.underlying t = some (.map kt e)) (ty : TypeId) : (Builtin.len_ #[t] ty #[.map (some m)]).run P w = .ok (.int .i64 K) w := by
  have h1 := World.ownsMap.len h ht ty
  rw [kv_size] at h1
  exact h1
theorem sorted_lrow {l : List Ev} {n k m : Nat} (hm : m = l.length) (hg : ∀ i, i < m → 0 ≤ (ev l i).t ∧ (ev l i).t < (n : Int)) {js : List Nat} (hp : js.Perm (lat l m k)) (hs : js.Pairwise fun i j => (ev l i).t ≤ (ev l j).t) : js = lrow l n k := by
  have hmem : ∀ i, i ∈ js ↔ i < m ∧ lv l i = k := fun i => by rw [hp.mem_iff, mem_lat]
  have hnd : js.Nodup := hp.symm.nodup (by unfold lat; exact List.nodup_range.filter _)
  refine byT_ext ?_ (lrow_byT l n k) fun i => ?_
  · refine List.Pairwise.imp_of_mem (fun {a b} ha hb h => ?_) (hs.and hnd)
    have h1 := (hmem a).1 ha; have h2 := (hmem b).1 hb
    have h3 := same_level (l := l) (i := a) (j := b) (by omega)
    have h4 : (ev l a).t ≠ (ev l b).t := fun e => h.2 (h3 e)
    have := h.1
    omega
  · rw [hmem, mem_lrow, hm]
    constructor
    · rintro ⟨h1, h2⟩
      obtain ⟨h3, h4⟩ := hg i (by omega)
      exact ⟨h1, h2, ((ev l i).t).toNat, by omega, by omega⟩
    · rintro ⟨h1, h2, _⟩; exact ⟨h1, h2⟩
theorem own_ne {w : World} {B1 B2 n1 n2 : Nat} {e1 e2 : TypeId} {v1 v2 : Value} {x1 x2 : List Value} (h1 : w.ownsRow B1 e1 1 v1 n1 x1) (h2 : w.ownsRow B2 e2 1 v2 n2 x2) (hne : e1 ≠ e2) : v1.ownBlock = none ∨ v1.ownBlock ≠ v2.ownBlock := by
  cases hv : v1.ownBlock with
  | none => exact .inl rfl
  | some g =>
    refine .inr fun e => hne ?_
    rcases h1.2 with ⟨rfl, _⟩ | ⟨g1, c1, cur1, rfl, _, hg1, _⟩
    · simp [Value.ownBlock] at hv
    · obtain rfl : g1 = g := by simpa [Value.ownBlock] using hv
      rcases h2.2 with ⟨rfl, _⟩ | ⟨g2, c2, cur2, rfl, _, hg2, _⟩
      · simp [Value.ownBlock] at e
      · obtain rfl : g1 = g2 := by simpa [Value.ownBlock] using e
        rw [hg1] at hg2
        injection hg2 with hg2
        injection hg2
/-- the rows sorted so far. -/
structure WSt (l : List Ev) (n b m j : Nat) (w2 : World) (val : Nat → Value) (vo : Value) (wr : World) : Prop where
  bel : Below w2.heap.size w2 wr
  map : MapK Try.prog 3 wr b (nlvK l m) val
  fam : Fam wr (b + 1) (nlvK l m) val (fun k => if k < j then lrow l n k else lat l m k)
  spare : ∀ k, k < nlvK l m → Spare (.int .i64 0) (if k < j then lrow l n k else lat l m k).length (val k) wr
  out : wr.ownsRow (b + 1) 23 1 vo j ((List.range j).map val)
variable {l : List Ev} {n b m j : Nat} {w2 wr w' : World} {val : Nat → Value} {vo : Value}
/-- a row is sorted. -/
theorem WSt.sorted (h : WSt l n b m j w2 val vo wr) (hb : w2.heap.size ≤ b + 1) (hj : j < nlvK l m) {g : Nat} (hv : (val j).ownBlock = some g) (hg : wr.grownBy w' (some g)) (ho : w'.ownsRow (b + 1) 3 1 (val j) (lat l m j).length (icl (lrow l n j))) (hsp : Spare (.int .i64 0) (lat l m j).length (val j) w') (hlen : (lrow l n j).length = (lat l m j).length) :
    Below w2.heap.size w2 w' ∧ MapK Try.prog 3 w' b (nlvK l m) val ∧ Fam w' (b + 1) (nlvK l m) val (fun k => if k < j + 1 then lrow l n k else lat l m k) ∧ (∀ k, k < nlvK l m → Spare (.int .i64 0) (if k < j + 1 then lrow l n k else lat l m k).length (val k) w') ∧ w'.ownsRow (b + 1) 23 1 vo j ((List.range j).map val) := by
  have hgb : b + 1 ≤ g := ((h.fam.own j hj).lt g hv).1
  have hne : ∀ k, k < nlvK l m → k ≠ j → (val k).ownBlock = none ∨ (val k).ownBlock ≠ some g := fun k hk hkj => by rw [← hv]; exact h.fam.ne k j hk hj hkj
  refine ⟨h.bel.grown hg h.bel.size (fun k e => by injection e with e; omega), h.map.at (hg.block b h.map.lt (by intro e; injection e with e; omega)), ⟨fun k hk => ?_, h.fam.ne⟩, fun k hk => ?_, h.out.kept hg ?_⟩
  · by_cases e : k = j
    · subst e
      simp only [Nat.lt_succ_self, if_true]
      rw [hlen]; exact ho
    · have := (h.fam.own k hk).kept hg (hne k hk e)
      by_cases h1 : k < j
      · simp only [h1, show k < j + 1 by omega, if_true] at this ⊢; exact this
      · simp only [h1, show ¬ k < j + 1 by omega, if_false] at this ⊢; exact this
  · by_cases e : k = j
    · subst e
      simp only [Nat.lt_succ_self, if_true]
      rw [hlen]; exact hsp
    · have := (h.spare k hk).kept hg (hne k hk e)
      by_cases h1 : k < j
      · simp only [h1, show k < j + 1 by omega, if_true] at this ⊢; exact this
      · simp only [h1, show ¬ k < j + 1 by omega, if_false] at this ⊢; exact this
  · rw [← hv]
    exact own_ne h.out (h.fam.own j hj) (by decide)
theorem WSt.put {w6 : World} {v6 : Value} (hB : Below w2.heap.size w2 w') (hM : MapK Try.prog 3 w' b (nlvK l m) val) (hF : Fam w' (b + 1) (nlvK l m) val (fun k => if k < j + 1 then lrow l n k else lat l m k)) (hS : ∀ k, k < nlvK l m → Spare (.int .i64 0) (if k < j + 1 then lrow l n k else lat l m k).length (val k) w') (hO : w'.ownsRow (b + 1) 23 1 vo j ((List.range j).map val))
    (hb : w2.heap.size ≤ b + 1) (h1 : w6.ownsRow (b + 1) 23 1 v6 (j + 1) ((List.range j).map val ++ [val j])) (h3 : w'.grownBy w6 vo.ownBlock) : WSt l n b m (j + 1) w2 val v6 w6 := by
  have hlow : ∀ k, vo.ownBlock = some k → b + 1 ≤ k := fun k e => (hO.lt k e).1
  refine ⟨hB.grown h3 hB.size (fun k e => by have := hlow k e; omega), hM.at (h3.block b hM.lt (by intro e; have := hlow b e.symm; omega)), hF.kept h3 fun k hk => own_ne (hF.own k hk) hO (by decide), fun k hk => (hS k hk).kept h3 (own_ne (hF.own k hk) hO (by decide)), ?_⟩
  rw [List.range_succ, List.map_append]
  exact h1
end Go.Proofs.Ytaalinhkikmfaaa
end

section
set_option linter.unusedSimpArgs false
set_option linter.unusedVariables false
namespace Go.Proofs.Ytaalinhkikmfaaa
open Go.RowKit

theorem vst_new {l : List Ev} (w2 : World) (m : Nat) : VSt l w2.heap.size (w2.heap.size + 1) m w2 (fun k => if k < 0 then lv l k else 0) 0 (fun _ => .slice none 0 0) ((w2.alloc (.cells (Array.replicate m (.int .i64 0)) 3)).alloc (.map #[] 0)) := by
  have h1 := MapK.made Try.prog 3 (w2.alloc (.cells (Array.replicate m (.int .i64 0)) 3)) (fun _ => .slice none 0 0)
  rw [show (w2.alloc (.cells (Array.replicate m (.int .i64 0)) 3)).heap.size = w2.heap.size + 1 by simp] at h1
  refine ⟨((Below.refl w2.heap.size w2).alloc (Nat.le_refl _) _).alloc (by simp) _, ⟨_, alloc_blk (heap_alloc_new w2 _) _, by simp, fun k hk => by simp [hk]⟩, h1, fun _ _ => rfl, (Fam.nil _ _ _).congr (fun _ _ => rfl) (fun k _ => (lat_none (by simp [nlvK, top])).symm), fun k _ => ?_⟩
  rw [lat_none (by simp [nlvK, top])]
  exact Spare.nil _ _ _
theorem not_map {w : World} {b K B k : Nat} {val : Nat → Value} {v : Value} {xs : List Value} (h : MapK Try.prog 3 w b K val) (ho : w.ownsRow B 3 1 v k xs) : v.ownBlock = none ∨ v.ownBlock ≠ some b := by
  cases hv : v.ownBlock with
  | none => exact .inl rfl
  | some g =>
    refine .inr fun e => ?_
    injection e with e
    subst e
    obtain ⟨es, c, h1, _⟩ := h
    rcases ho.2 with ⟨rfl, _⟩ | ⟨g', cap, cur, rfl, _, hg, _⟩
    · simp [Value.ownBlock] at hv
    · obtain rfl : g' = g := by simpa [Value.ownBlock] using hv
      rw [h1] at hg
      cases hg
theorem vst_put {l : List Ev} {L b m i r : Nat} {w2 wr W w9 : World} {val : Nat → Value} {v : Value} (h : VSt l L b m w2 (fun k => if k < i + 1 then lv l k else 0) i val wr) (hL : L = w2.heap.size) (hb : b = L + 1) (hm : m ≤ 1024) (hW : Below (b + 1) wr W) (hr : r = lv l i) (hi : i < m)
    (hF : Fam W (b + 1) (m + 1) (upd val r v) (upd (lat l i) r (lat l i r ++ [i]))) (hS : ∀ k, k < m + 1 → Spare (.int .i64 0) (upd (lat l i) r (lat l i r ++ [i]) k).length (upd val r v k) W)
    (h9 : MapK Try.prog 3 w9 b (if r < nlvK l i then nlvK l i else nlvK l i + 1) (upd val r v)) (g9 : W.grownBy w9 (some b)) : VSt l L b m w2 (fun k => if k < i + 1 then lv l k else 0) (i + 1) (upd val r v) w9 := by
  have hn : (if r < nlvK l i then nlvK l i else nlvK l i + 1) = nlvK l (i + 1) := by rw [hr]; exact nlvK_next l i
  have hbl : b < wr.heap.size := h.map.lt
  have hmW : MapK Try.prog 3 W b (nlvK l i) val := h.map.at (hW.block b (by omega))
  rw [hn] at h9
  refine ⟨(h.bel.trans (hW.mono (by omega))).grown g9 (Nat.le_trans h.bel.size hW.size) (fun k e => by injection e with e; omega), (h.lcs.at (hW.block L (by omega))).at (g9.block L (by have := hW.size; omega) (by intro e; injection e with e; omega)), h9, fun k hk => ?_, (hF.kept g9 fun k hk => not_map hmW (hF.own k hk)).congr (fun _ _ => rfl) (fun k _ => by rw [hr]; exact lat_upd l i k), fun k hk => ?_⟩
  · have h1 : nlvK l i ≤ k ∧ k ≠ r := by
      have := nlvK_succ l i
      have := lv_lt_nlv (l := l) (show i < i + 1 by omega)
      omega
    rw [upd_ne _ _ h1.2]
    exact h.nilv k h1.1
  · have := (hS k hk).kept g9 (not_map hmW (hF.own k hk))
    rw [hr, lat_upd] at this
    rw [hr]
    exact this
set_option maxRecDepth 100000 in
set_option maxHeartbeats 8000000 in
theorem levels_any (l : List Ev) (m : Nat) (hm : m = l.length) (hl : m ≤ 4611686018427387904) (n : Int) (A : Option Addr) (cap : Nat) (hcap : m ≤ cap) (w : World) (hA : Evs w w.heap.size A l) :
    Calls Try.prog 12 #[.slice A m cap, .int .i64 n] w (LevelsP l n w) := by
  have HA := Lib.hid hA; have HM := Lib.hid hm
  clear hA hm
  go_enter Try.func12, Try.ntmps12
  go_upto_region 1 with (fail)
  obtain ⟨b0_, hb_⟩ := boxes1 w (.cells #[.slice A m cap] 22)
  generalize w.alloc (.cells #[.slice A m cap] 22) = w0 at *
  have T0 : Hid (∀ W, Below w0.heap.size w0 W → W.cell? ⟨w.heap.size, 0, none⟩ = some (.slice A m cap)) := Lib.hid (fun W hW => by have e := (hW.block _ (lt_blk b0_)).trans b0_; exact by rw [cell_blk e]; rfl)
  have HB := Lib.hid hb_
  clear hb_ b0_
  have HCL : Hid (Calls Try.prog 34 #[.slice A m cap, .int .i64 n] w0 (ClkP l n w0)) := Lib.hid (by
    have := clocks_any l (by have := HM.out; omega) n A cap (by have := HM.out; omega) w0 ((HA.out.below HB.out).more HB.out.size)
    rw [← HM.out] at this
    exact this)
  have x0 := T0.out w0 (Below.refl _ _)
  go_wp2_with fail
  with_reducible refine HCL.out.mono ?_
  rintro e w1 ⟨hb1, hcase⟩
  have HB1 := Lib.hid (HB.out.trans (hb1.mono HB.out.size))
  have HB01 := Lib.hid hb1
  clear HCL hb1 x0
  rcases hcase with ⟨hw, rfl⟩ | ⟨hw, v, gc, cur, rfl, hv, hg1, hg, hcl⟩
  · have hn0 : ((wrongE l n : Nat) : Int) ≠ 0 := by omega
    have d0 : (((wrongE l n : Nat) : Int) != 0) = true := by rw [bne_iff_ne]; exact hn0
    have HE : Hid (LevelsP l n w (.returned (.tuple #[.slice none 0 0, .int .i64 (wrongE l n : Nat)])) w1) := Lib.hid ⟨HB1.out, .inl ⟨hw, rfl⟩⟩
    generalize wrongE l n = we at *
    clear hw hn0
    go_wp2_with fail
    go_ret2
    exact HE.out
  obtain ⟨x1, x2, x3, x4⟩ := wrong_ok hw
  have HG := Lib.hid (fun i (hi : i < m) => good_at x4 (show i < l.length by rw [← HM.out]; exact hi))
  have HWR := Lib.hid hw
  have hm10 : m ≤ 1024 := by rw [HM.out]; exact x3
  clear hw x3 x4
  have HN : Hid (∃ n' : Nat, n = n') := Lib.hid (Int.eq_ofNat_of_zero_le (show 0 ≤ n by omega))
  obtain ⟨n', hn'⟩ := HN.out
  rw [hn', Int.toNat_natCast] at hv hcl
  have hn10 : n' ≤ 1000 := by omega
  obtain ⟨Ad, cd, rfl, hck⟩ := clk_of (l := l) (by exact hv) hg hcl
  have HPA := Lib.hid (pasts_any l m HM.out (by omega) n' hn10 (fun i hi => by have := HG.out i hi; omega) A Ad cap cd w.heap.size w1.heap.size w1 (HA.out.below HB1.out) HB1.out.size (by rw [HM.out]; exact hck) (Nat.le_refl _))
  rw [HM.out] at HPA
  rw [← HM.out] at HPA
  clear hv hg hcl hck hg1 cur
  have hll : l.length = m := HM.out.symm
  rw [hll]
  clear hll
  have x1 := T0.out w1 HB01.out
  go_wp2_with fail
  with_reducible refine HPA.out.mono ?_
  rintro e w2 ⟨P, F, val0, rfl, hmp, hmf, hfam, hP, hF, hPF, hb2⟩
  have HB2 := Lib.hid (HB1.out.trans (hb2.mono HB1.out.size))
  have HB02 := Lib.hid (HB01.out.trans (hb2.mono HB01.out.size))
  have HEV := Lib.hid (HA.out.below HB2.out)
  have HMP := Lib.hid hmp; have HFA := Lib.hid hfam
  have HPL := Lib.hid hmp.lt
  clear hmp hmf hfam hP hF hPF hb2 HPA x1
  have HT2 : Hid (∀ W, Below w2.heap.size w2 W → W.cell? ⟨w.heap.size, 0, none⟩ = some (.slice A m cap)) := Lib.hid fun W hW => T0.out W (HB02.out.trans (hW.mono HB02.out.size))
  have HGL : Hid (w.heap.size < w2.heap.size) := Lib.hid (Nat.lt_of_lt_of_le (World.block_lt_of_cell? _ _ (T0.out w0 (Below.refl _ _))) HB02.out.size)
  clear T0
  obtain ⟨gl, hgl⟩ : ∃ gl, gl = w.heap.size := ⟨_, rfl⟩
  rw [← hgl]
  rw [← hgl] at HT2 HGL
  have HGE := Lib.hid hgl
  have hmk := fun W => run_make_el EI m m (by simp) (by omega) (by omega) W
  have hmm := @run_makeMap Try.prog
  have x2 := HT2.out w2 (Below.refl _ _)
  clear hgl
  go_upto_region 7 with (fail)
  have HW4 : Hid (∃ W, W = (w2.alloc (.cells (Array.replicate m (.int .i64 0)) 3)).alloc (.map #[] 0)) := Lib.hid ⟨_, rfl⟩
  obtain ⟨w4, hw4⟩ := HW4.out
  have VS0 : Hid (VSt l w2.heap.size (w2.heap.size + 1) m w2 (fun k => if k < 0 then lv l k else 0) 0 (fun _ => .slice none 0 0) w4) := Lib.hid (by
    subst hw4
    exact vst_new w2 m)
  rw [← hw4]
  obtain ⟨L, hL⟩ : ∃ L, L = w2.heap.size := ⟨_, rfl⟩
  rw [← hL]
  rw [← hL] at VS0 HPL HGL
  obtain ⟨b, hbq⟩ : ∃ b, b = L + 1 := ⟨_, rfl⟩
  rw [← hbq]
  rw [← hbq] at VS0
  have HLE := Lib.hid hL; have HBE := Lib.hid hbq
  have HB0 : Hid (w.heap.size ≤ w2.heap.size) := Lib.hid HB2.out.size
  have HCP : Hid (∀ x, x < m → ∃ Ax cx, ∀ W, Below w2.heap.size w2 W → W.cell? ⟨P, x, none⟩ = some (.slice Ax (pastL l x).length cx) ∧ ∀ t (ht : t < (pastL l x).length), ∃ b o, Ax = some ⟨b, o, none⟩ ∧ W.cell? ⟨b, o + t, none⟩ = some (.int .i64 ((pastL l x)[t] : Nat))) := Lib.hid fun x hx => by
    have ho := HFA.out.own x (by omega)
    have h2 : pf l m x = pastL l x := by unfold pf; rw [if_pos hx]
    rw [h2] at ho
    obtain ⟨Ax, cx, e, hr, _⟩ := own_rd ho
    refine ⟨Ax, cx, fun W hW => ?_⟩
    have h1 := ((HMP.out.at (hW.block P HMP.out.lt)).cell hx).1
    rw [Nat.zero_add, e] at h1
    refine ⟨h1, fun t ht => ?_⟩
    obtain ⟨b, o, e1, e2, e3⟩ := hr t _ (icl_get ht)
    exact ⟨b, o, e1, (hW.cell (p := ⟨b, o + t, none⟩) e2).trans e3⟩
  have HPLN : Hid (∀ x, x < m → (pastL l x).length ≤ m) := Lib.hid fun x hx => by
    unfold pastL
    have := List.length_filter_le (fun j => hb l j x) (List.range x)
    rw [List.length_range] at this
    omega
  have x3 := HT2.out w4 VS0.out.bel
  clear hw4 hL hbq hmk x2
  go_wp2_with fail
  go_loopw [38] (fun iv wr => ∃ (i : Nat) (val : Nat → Value), i ≤ m ∧ iv = .int .i64 (i : Nat) ∧ VSt l L b m w2 (fun k => if k < i then lv l k else 0) i val wr) (fun iv _ => m - (intOf iv).toNat)
  case atStart => exact ⟨0, _, by omega, by go_num, VS0.out⟩
  case round =>
    obtain ⟨i, val, hi, rfl, hst⟩ := hrel
    have HST := Lib.hid hst
    clear hst x3
    by_cases hlt : i < m
    · obtain ⟨Ax, cx, hcx⟩ := HCP.out i hlt
      have c1 := (hcx wr HST.out.bel).1
      have HCX := Lib.hid hcx
      clear hcx
      go_wp2_with fail
      go_loopw [46] (fun tv wr => ∃ t : Nat, t ≤ (pastL l i).length ∧ tv = .int .i64 (t : Nat) ∧ VSt l L b m w2 (fun k => if k < i then lv l k else if k = i then mlv l ((pastL l i).take t) else 0) i val wr) (fun tv _ => (pastL l i).length - (intOf tv).toNat)
      case atStart => exact ⟨0, by omega, by go_num, HST.out.congr fun k _ => by simp [mlv]⟩
      case round =>
        obtain ⟨t, ht, rfl, hst⟩ := hrel
        have HS2 := Lib.hid hst
        clear hst
        have hpl := HPLN.out i hlt
        by_cases htl : t < (pastL l i).length
        · obtain ⟨br, fr, rfl, e2⟩ := (HCX.out _ HS2.out.bel).2 t htl
          obtain ⟨k, hk⟩ : ∃ k, k = (pastL l i)[t] := ⟨_, rfl⟩
          rw [← hk] at e2
          have hki : k < i := by rw [hk]; exact past_lt (List.getElem_mem htl)
          have hkm : k < m := by omega
          obtain ⟨d1, f1⟩ := HS2.out.lcs.cell hlt
          obtain ⟨d2, _⟩ := HS2.out.lcs.cell hkm
          simp only [Nat.lt_irrefl, if_false, if_true] at d1
          simp only [hki, if_true] at d2
          have hml := mlv_le l i t
          have hlv := lv_le l k
          have HMS : Hid (mlv l ((pastL l i).take (t + 1)) = max (mlv l ((pastL l i).take t)) (lv l k + 1)) := Lib.hid (by rw [mlv_succ l _ htl, ← hk])
          have HCN := Lib.hid (fun x => HS2.out.count HLE.out HBE.out i x)
          obtain ⟨p, hp⟩ : ∃ p, p = mlv l ((pastL l i).take t) := ⟨_, rfl⟩
          obtain ⟨q, hq⟩ : ∃ q, q = lv l k := ⟨_, rfl⟩
          rw [← hp] at d1 HMS hml
          rw [← hq] at d2 HMS hlv
          have fz : ∀ j, wr.frozen? ⟨L, j, none⟩ = false := fun j => by obtain ⟨cs, h1, _⟩ := HS2.out.lcs; exact free_blk h1 j
          have e3 : IntKind.i64.wrap ((q : Int) + 1) = (q : Int) + 1 := wi64 _ (by omega) (by omega)
          clear hk hp hq
          go_wp2_with fail
          go_region
          rw [show (max (p : Int) ((q : Int) + 1)) = ((max p (q + 1) : Nat) : Int) by omega]
          have HS4 : Hid (VSt l L b m w2 (fun k => if k < i then lv l k else if k = i then mlv l ((pastL l i).take (t + 1)) else 0) i val (wr.setCell ⟨L, i, none⟩ (.int .i64 (max p (q + 1) : Nat))).drew) := Lib.hid ((HCN.out (max p (q + 1))).drew.congr fun k' _ => by
            by_cases e : k' = i
            · subst e
              rw [upd_at, if_neg (Nat.lt_irrefl _), if_pos rfl, HMS.out]
            · rw [upd_ne _ _ e, if_neg e, if_neg e])
          go_wp2_with fail
          exact ⟨⟨t + 1, by omega, by go_num, HS4.out⟩, by simp [intOf]; omega⟩
        · obtain rfl : t = (pastL l i).length := by omega
          have HS3 : Hid (VSt l L b m w2 (fun k => if k < i + 1 then lv l k else 0) i val wr) := Lib.hid (HS2.out.congr fun k hk => by
            rw [List.take_length, mlv_all]
            by_cases h1 : k < i
            · rw [if_pos h1, if_pos (by omega)]
            · by_cases h2 : k = i
              · rw [if_neg h1, if_pos h2, if_pos (by omega), h2]
              · rw [if_neg h1, if_neg h2, if_neg (by omega)])
          obtain ⟨r, hr⟩ : ∃ r, r = lv l i := ⟨_, rfl⟩
          have hri : r ≤ i := by rw [hr]; exact lv_le l i
          have hrn : r ≤ nlvK l i := by rw [hr]; exact lv_le_nlv l i
          have hnl : nlvK l i ≤ i := nlvK_le l i
          have HRV := Lib.hid hr
          have T15 : Hid (∀ W, Below (b + 1) wr W → W.cell? ⟨L, i, none⟩ = some (.int .i64 (r : Nat)) ∧ (Instr.lookup 73 (.map (some b)) (.int .i64 (r : Int)) false).run Try.prog W = .ok (val r) W) := Lib.hid fun W hW => by
            have h1 := (HS3.out.lcs.cell hlt).1
            rw [if_pos (by omega), ← hr] at h1
            have hLb : L < b + 1 := by have := HBE.out; omega
            exact ⟨(hW.cell (p := ⟨L, i, none⟩) hLb).trans h1, (HS3.out.map.at (hW.block b (by omega))).lookI HS3.out.nilv r (by omega)⟩
          have HBW : Hid (b + 1 ≤ wr.heap.size) := Lib.hid HS3.out.map.lt
          have HLR : Hid ((lat l i r).length ≤ i) := Lib.hid (lat_len l i r)
          have HOB : Hid (∀ g, (val r).ownBlock = some g → g < wr.heap.size) := Lib.hid fun g hg => ((HS3.out.fam.own r (by omega)).lt g hg).2
          have q1 : (0 : Int) ≤ i := by omega
          have q2 : (i : Int) < m := by omega
          clear hr
          go_upto_region 15 with (fail)
          apply wp_region_relJ (H := []) (fun W => Below (b + 1) wr W) (fun W => Fam W (b + 1) (m + 1) val (lat l i) ∧ ∀ k, k < m + 1 → Spare (.int .i64 0) (lat l i k).length (val k) W) (NewS wr.heap.size) 14 [(Sum.inl _ : TJ), (Sum.inl _ : TJ), (Sum.inl _ : TJ), (Sum.inl _ : TJ), (Sum.inl _ : TJ), (Sum.inl _ : TJ), (Sum.inl _ : TJ), (Sum.inl _ : TJ), (Sum.inl _ : TJ), (Sum.inl _ : TJ), (Sum.inl _ : TJ), (Sum.inl _ : TJ), (Sum.inr (OneN wr.heap.size (.int .i64 (i : Nat)), none) : TJ), (Sum.inr (fun _ _ => True, some (AppSp (b + 1) (val r) (lat l i r) i)) : TJ)] [false, false, false, false, false, false, false, false, false, false, false, false, false, true] (by kernel_rfl) (by kernel_rfl) (by rfl) (fun _ _ _ _ _ h => h) (by kernel_rfl) rfl rfl (fun w w' hb g _ hg => hb.block g hg) (fun _ _ h hb => ⟨h.1.below hb, fun k hk => (h.2 k hk).kept (grown_below hb none) (by cases hq : (val k).ownBlock <;> simp)⟩) ((Below.refl _ _).drew) (⟨HS3.out.fam.below (Below.refl _ _).drew, HS3.out.spare⟩)
          simp only [List.take_succ_cons, List.take_zero, List.drop_succ_cons, List.drop_zero]
          iterate 12 (apply rel_isJ; (intro W hW hf; obtain ⟨z1, z2⟩ := T15.out W hW; go_simp; first | exact ⟨⟨hW, Below.refl _ _⟩, rfl⟩ | exact ⟨Below.refl _ _, rfl⟩ | rfl); simp only [Act.put, List.setIfInBounds_toArray, List.set_cons_succ, List.set_cons_zero])
          apply rel_newJ
          · intro W hW hf
            refine rel_valJ (v := .slice (some ⟨W.heap.size, 0, none⟩) 1 1) (W' := W.alloc (.cells #[.int .i64 (i : Nat)] 3)) rfl (by go_simp) ?_
            exact ⟨hW.trans ((below_alloc W _).mono (Nat.le_trans HBW.out hW.size)), ⟨_, rfl, hW.size, heap_alloc_new _ _⟩, below_alloc W _⟩
          · exact OneN.keepsJ _ _
          intro v76
          simp only [Act.put, List.setIfInBounds_toArray, List.set_cons_succ, List.set_cons_zero]
          apply rel_effJ
          · intro W hW hS hf
            have h76 := hf (76, OneN wr.heap.size (.int .i64 (i : Nat)) v76) (by simp) (by simp [Oper.looksAt, Op.operands, Call.operands])
            obtain ⟨g76, rfl, hg1, hg2⟩ := h76
            refine rel_appSJ rfl (.tmp 74) (.tmp 76) rfl (b + 1) (val r) (lat l i r).length (icl (lat l i r)) rfl (hS.1.own r (by omega)) (hS.2 r (by omega)) g76 i rfl hg2 (by have := HLR.out; omega) (Nat.le_trans HBW.out hW.size) ?_
            intro v' w' h1 h2 h3 h4 h5
            refine ⟨hW.grown h2 (Nat.le_trans HBW.out hW.size) h4, trivial, fun g hg1 hg2 => h2.block g hg2 (fun e => ?_), ⟨h1, h2, h3⟩, h5⟩
            have := HOB.out g e.symm
            omega
          · exact fun _ _ _ _ _ => trivial
          intro v77
          simp only [Act.put, List.setIfInBounds_toArray, List.set_cons_succ, List.set_cons_zero]
          refine rel_endJ ?_
          intro W hW hS hf
          try simp only [Act.put, List.setIfInBounds_toArray, List.set_cons_succ, List.set_cons_zero]
          obtain ⟨W0, W1, ⟨hF0, hS0⟩, ⟨hA1, hA2⟩, hB1⟩ := hS
          have HF1 := Lib.hid ((hF0.app (k := r) (by omega) i hA1.1 hA1.2.1 hA1.2.2).below hB1)
          have HSP1 : Hid (∀ k, k < m + 1 → Spare (.int .i64 0) (upd (lat l i) r (lat l i r ++ [i]) k).length (upd val r v77 k) W) := Lib.hid fun k hk => by
            have hk1 : ∀ (v : Value), v.ownBlock = none ∨ v.ownBlock ≠ none := fun v => by cases v.ownBlock <;> simp
            by_cases e : k = r
            · subst e
              rw [upd_at, upd_at, List.length_append]
              exact hA2.kept (grown_below hB1 none) (hk1 _)
            · rw [upd_ne _ _ e, upd_ne _ _ e]
              exact ((hS0 k hk).kept hA1.2.1 (hF0.ne k r (by omega) (by omega) e)).kept (grown_below hB1 none) (hk1 _)
          have HWW := Lib.hid hW
          clear hF0 hS0 hA1 hA2 hB1 hW hf
          have HMP2 := Lib.hid (HS3.out.map.at (HWW.out.block b (by omega)))
          refine wpList_storeK HMP2.out (by omega) r hrn v77 rfl (.tmp 64) (.tmp 68) (.tmp 77) rfl rfl rfl rfl ?_
          intro w9 h9 g9
          have HS5 : Hid (VSt l L b m w2 (fun k => if k < i + 1 then lv l k else 0) (i + 1) (upd val r v77) w9) := Lib.hid (vst_put HS3.out HLE.out HBE.out hm10 HWW.out HRV.out hlt HF1.out HSP1.out h9 g9)
          clear h9 g9
          go_wp2_with fail
          exact ⟨⟨i + 1, _, by omega, by go_num, HS5.out⟩, by simp [intOf]; omega⟩
    · obtain rfl : m = i := by omega
      obtain ⟨K, hKq⟩ : ∃ K, K = nlvK l m := ⟨_, rfl⟩
      have HKE := Lib.hid hKq
      have hKm : K ≤ m := by rw [hKq]; exact nlvK_le l m
      have WS0 : Hid (WSt l n' b m 0 w2 val (.slice none 0 0) wr) := Lib.hid ⟨HST.out.bel, HST.out.map, ⟨fun k hk => by simpa using HST.out.fam.own k (by rw [← hKq] at hk; omega), fun i j hi hj => HST.out.fam.ne i j (by rw [← hKq] at hi; omega) (by rw [← hKq] at hj; omega)⟩, fun k hk => by simpa using HST.out.spare k (by rw [← hKq] at hk; omega), World.ownsRow_nil _ _ _ _⟩
      have LEN : Hid (∀ ty, (Builtin.len_ #[73] ty #[.map (some b)]).run Try.prog wr = .ok (.int .i64 K) wr) := Lib.hid fun ty => by
        rw [hKq]; exact HST.out.map.len Try.underlying73 ty
      have HSTN := Lib.hid HST.out.nilv
      have hlen := LEN.out
      clear hKq HST VS0
      go_wp2_with fail
      go_loopw [15, 81] (fun vo jv wr => ∃ j : Nat, j ≤ K ∧ jv = .int .i64 (j : Nat) ∧ WSt l n' b m j w2 val vo wr) (fun _ jv _ => K - (intOf jv).toNat)
      case atStart => exact ⟨0, by omega, by go_num, WS0.out⟩
      case round =>
        clear hlen WS0 LEN
        obtain ⟨j, hj, rfl, hst⟩ := hrel
        have HWS := Lib.hid hst
        clear hst
        by_cases hlt : j < K
        · have hjn : j < nlvK l m := by rw [← HKE.out]; exact hlt
          obtain ⟨js, hjs⟩ : ∃ js, js = lat l m j := ⟨_, rfl⟩
          have HJS := Lib.hid hjs
          have hjl : js.length ≤ m := by rw [hjs]; exact lat_len l m j
          have hj0 : 0 < js.length := by
            obtain ⟨x, h1, h2⟩ := lv_some (l := l) (k := m) hjn
            rw [hjs]; exact List.length_pos_of_mem (mem_lat.2 ⟨h1, h2⟩)
          have hown := HWS.out.fam.own j hjn
          simp only [Nat.lt_irrefl, if_false] at hown
          rw [← hjs] at hown
          have hspr := HWS.out.spare j hjn
          simp only [Nat.lt_irrefl, if_false] at hspr
          rw [← hjs] at hspr
          obtain ⟨g, cv, hval, hgb⟩ : ∃ g cv, val j = .slice (some ⟨g, 0, none⟩) js.length cv ∧ b + 1 ≤ g := by
            rcases hown.2 with ⟨h1, h2⟩ | ⟨g, cv, cur, h1, h2, _⟩
            · omega
            · exact ⟨g, cv, h1, h2⟩
          have x5 := HWS.out.map.lookI HSTN.out j (by omega)
          obtain ⟨k, hk⟩ : ∃ k, k = js.length := ⟨_, rfl⟩
          have SRT : Hid (Calls Try.prog 41 #[.slice (some ⟨g, 0, none⟩) k cv, .func (.func 42) #[] #[.pointer (some ⟨gl, 0, none⟩)]] wr fun e w' => e = .returned (.tuple #[]) ∧ ∃ js', js'.Perm js ∧ js'.Pairwise (fun i j => (ev l i).t ≤ (ev l j).t) ∧
              w'.ownsRow (b + 1) 3 1 (.slice (some ⟨g, 0, none⟩) k cv) k (icl js') ∧ Spare (.int .i64 0) k (.slice (some ⟨g, 0, none⟩) k cv) w' ∧ wr.grownBy w' (some g)) := Lib.hid (by
            rw [hval, ← hk] at hown hspr
            have h1 := HGL.out
            have h2 := HBE.out
            have h3 := HLE.out
            have h4 := HB0.out
            exact sort_any l m HM.out (by omega) A cap gl w.heap.size (b + 1) js (fun x hx => by rw [hjs] at hx; exact (mem_lat.1 hx).1) k hk (by omega) g cv wr hown hspr (by omega) (HT2.out wr HWS.out.bel) (by omega) (HEV.out.below (HWS.out.bel.mono (by omega))) (by omega))
          have HVAL := Lib.hid hval
          have HK := Lib.hid hk
          rw [hval, ← hk] at x5
          clear hjs hown hspr hval hk
          go_wp2_with fail
          with_reducible refine SRT.out.mono ?_
          rintro e w5 ⟨rfl, js', hp, hs, ho, hsp, hg⟩
          have hLB : w2.heap.size ≤ b + 1 := by have := HLE.out; have := HBE.out; omega
          have hpl : js'.Perm (lat l m j) := by rw [← HJS.out]; exact hp
          have hrow : js' = lrow l n' j := sorted_lrow HM.out (by rw [← hn']; exact HG.out) hpl hs
          have hlen2 : (lrow l n' j).length = (lat l m j).length := by rw [← hrow]; exact hpl.length_eq
          have hkl : k = (lat l m j).length := by rw [HK.out, HJS.out]
          have hval := HVAL.out
          rw [← HK.out] at hval
          obtain ⟨y1, y2, y3, y4, y5⟩ := HWS.out.sorted hLB hjn (g := g) (by rw [hval]; rfl) hg (by rw [hval, ← hkl, ← hrow]; exact ho) (by rw [hval, ← hkl]; exact hsp) hlen2
          have Y1 := Lib.hid y1; have Y2 := Lib.hid y2; have Y3 := Lib.hid y3; have Y4 := Lib.hid y4; have Y5 := Lib.hid y5
          have x6 := Y2.out.lookI HSTN.out j (by omega)
          rw [hval] at x6
          have HV := Lib.hid hval
          have HLB := Lib.hid hLB
          have HWZ : Hid (b + 1 ≤ w5.heap.size) := Lib.hid Y2.out.lt
          clear x5 hp hs ho hsp hg hpl hrow hlen2 hkl hval hLB y1 y2 y3 y4 y5 SRT HWS
          go_wp2_with (at_builtin; refine wpList_append_one0 EII rfl (.tmp 89) (.tmp 93) rfl (b + 1) (.slice (some ⟨g, 0, none⟩) k cv) rfl _ j ((List.range j).map val) rfl Y5.out rfl (by omega) (by omega) w5 HWZ.out (Below.refl _ _) ?_; intro v6 w6 h1 h2 h3 h4; clear h2 h4; have O6 := Lib.hid (WSt.put Y1.out Y2.out Y3.out Y4.out Y5.out HLB.out (v6 := v6) (w6 := w6) (by rw [HV.out]; exact h1) h3); clear h1 h3)
          exact ⟨⟨j + 1, by omega, by go_num, O6.out⟩, by simp [intOf]; omega⟩
        · obtain rfl : j = K := by omega
          go_wp2_with fail
          go_ret2
          have hj2 : nlv l = j := by rw [HKE.out, HM.out]; rfl
          have hb1 : w.heap.size ≤ b + 1 := by have := HLE.out; have := HBE.out; have := HB0.out; omega
          refine ⟨HB2.out.trans (HWS.out.bel.mono HB0.out), .inr ⟨HWR.out, _, val, rfl, ?_, ?_, ?_⟩⟩
          · rw [hj2]; exact ⟨HWS.out.out.1, HWS.out.out.2.imp id fun ⟨g, cap, cur, e, hb, r⟩ => ⟨g, cap, cur, e, Nat.le_trans hb1 hb, r⟩⟩
          · rw [hj2, hn', Int.toNat_natCast]
            have h1 := HWS.out.fam
            rw [← HKE.out] at h1
            exact (h1.mono hb1).congr (fun _ _ => rfl) (fun k hk => by rw [if_pos hk])
          · intro k hk
            rw [hj2] at hk
            have h1 := HWS.out.spare k (by rw [← HKE.out]; exact hk)
            rw [if_pos hk] at h1
            rw [hn', Int.toNat_natCast]
            exact h1
end Go.Proofs.Ytaalinhkikmfaaa
end
