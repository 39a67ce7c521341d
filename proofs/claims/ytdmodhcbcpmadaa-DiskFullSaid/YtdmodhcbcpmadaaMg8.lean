/- several texts in one: rows whose spare cells hold the zero (DiskFull writes over the spare cells of what it is t, disk.Names: its spare cells hold the empty string., slices.Clone of bytes and disk.Read: the spare cells hold zeros; what is told is written o, OverTexts and OverBytes over slices of whatever capacity. -/
import Derived.Test.YtdmodhcbcpmadaaMg1
import Derived.OwnWalkIn
import Derived.RangeFuncNested
import Derived.RangeFuncBound
import Derived.RangeFuncBox
import Derived.RangeFuncCalls
import Derived.RangeFuncLeaves
import Derived.Shelf.Abstract
import Derived.Shelf.RegionOpen
import Derived.Shelf.SlIter.Stops
import Derived.WalkKit
import Derived.TacticsInMore
import Derived.LoopNIn
import Derived.LoopIn
import Derived.Test.YtdmodhcbcpmadaaMy
import Derived.Test.YtdmodhcbcpmadaaBy
import Derived.Test.YtdmodhcbcpmadaaMv
import Derived.Test.YtdmodhcbcpmadaaKq
section
set_option linter.unusedSimpArgs false
set_option linter.unusedVariables false
namespace Go.Proofs.Ytdmodhcbcpmadaa
open Go.RowKit

/-- the spare cells of v's own block, behind the first n, hold z. -/
def Spare (z : Value) (n : Nat) (v : Value) (w : World) : Prop := ∀ g, v.ownBlock = some g → ∃ cur e m, w.heap[g]? = some (.cells cur e m) ∧ ∀ x ∈ cur.toList.drop n, x = z
theorem Spare.kept {z : Value} {n : Nat} {v : Value} {w w' : World} {row : Option Nat} (h : Spare z n v w) (hg : w.grownBy w' row) (hne : v.ownBlock = none ∨ v.ownBlock ≠ row) : Spare z n v w' := fun g hv => by
  obtain ⟨cur, e, m, hc, hp⟩ := h g hv
  refine ⟨cur, e, m, (hg.block g (Array.getElem?_eq_some_iff.1 hc).1 ?_).trans hc, hp⟩
  rcases hne with h | h
  · rw [h] at hv; cases hv
  · rw [← hv]; exact h
theorem Spare.nil (z : Value) (n : Nat) (w : World) : Spare z n (.slice none 0 0) w := fun g h => by simp [Value.ownBlock] at h
theorem mem_zeroCells {z : Value} {n : Nat} {x : Value} (h : x ∈ (Builtin.zeroCells #[z] n).toList) : x = z := by
  unfold Builtin.zeroCells at h
  simp only [Array.toList_map, List.mem_map] at h
  obtain ⟨i, _, rfl⟩ := h
  simp [Nat.mod_one]
theorem run_append_spare {P : Program} {t e : TypeId} {z : Value} {bytes : Nat} (E : El P t e z bytes) (w : World) (base : Nat) (ty : TypeId)
    (v : Value) (n : Nat) (xs : List Value) (hown : w.ownsRow base e 1 v n xs) (hw : Spare z n v w)
    (a : Addr) (m c : Nat) (news : List Value) (hl : news.length = m) (hnews : ∀ j u, news[j]? = some u → w.cell? (a.add j) = some u) (h1 : ∀ u ∈ news, u.oneCell' = true)
    (h63 : n + m ≤ 1000000000000) (hbytes : bytes ≤ 100) (hbase : base ≤ w.heap.size) :
    ∃ v' w', (Builtin.append_ #[t, t] ty #[v, .slice (some a) m c]).run P w = .ok v' w' ∧ w'.ownsRow base e 1 v' (n + m) (xs ++ news) ∧ w.grownBy w' v.ownBlock ∧ (v' = .slice none 0 0 ↔ v = .slice none 0 0 ∧ m = 0) ∧ Spare z (n + m) v' w' := by
  obtain ⟨i, hi, hz, hs1, hb1⟩ := info_parts E.hi
  have hb : (n + m) * bytes ≤ 140737488355328 := Nat.le_trans (Nat.mul_le_mul h63 hbytes) (by omega)
  have hmx : n + m ≤ maxLen := by simp only [maxLen]; omega
  obtain ⟨v', w', hr, h2, h3, h4⟩ := run_append_own (P := P) w base t ty e i z 1 bytes E.ht hi hz hs1 hb1 (by rw [E.hz]; rfl) (by omega) v n xs hown a m c news (by omega) hnews h1 hmx hb hbase
  refine ⟨v', w', hr, h2, h3, h4, ?_⟩
  rcases hown.2 with ⟨rfl, rfl⟩ | ⟨g, cap, cur, rfl, hbg, hg, hnc, hcm, hcs, htake⟩
  · rcases Nat.eq_zero_or_pos m with h0 | h0
    · obtain rfl := h4.2 ⟨rfl, h0⟩
      exact Spare.nil _ _ _
    · have hr' := run_append_nil (P := P) w t ty e i z E.ht hi hz a m c news (by rw [hs1]; omega) hnews h0 (by omega) (by rw [hb1]; have := hb; simp only [Nat.zero_add] at this; omega)
      rw [hr] at hr'
      injection hr' with e1 e2
      subst e1; subst e2
      intro g hv
      obtain rfl : w.heap.size = g := by simpa [Value.ownBlock] using hv
      refine ⟨_, _, _, heap_alloc_new w.drew _, fun x hx => ?_⟩
      simp only [Array.toList_append, Nat.zero_add] at hx
      rw [List.drop_left' hl, E.hz] at hx
      exact mem_zeroCells hx
  · obtain ⟨cur', e', m', hc', hp'⟩ := hw g rfl
    rw [hg] at hc'
    cases hc'
    by_cases hroom : n + m ≤ cap
    · have hfit : n * i.size + news.length ≤ cur.size := by rw [hl, hcs, hs1]; omega
      have hr' := run_append_room (P := P) w t ty e i E.ht hi g n cap cur hg a m c news (by rw [hs1]; omega) hnews h1 hroom hfit
      rw [hr] at hr'
      injection hr' with e1 e2
      subst e1; subst e2
      intro g' hv
      obtain rfl : g = g' := by simpa [Value.ownBlock] using hv
      refine ⟨_, _, _, setRow_heap w g cur _ e _ hg, fun x hx => ?_⟩
      have e1 : (cur.toList.take (n * i.size) ++ news).length = n + m := by
        rw [List.length_append, List.length_take, hl, hs1, Array.length_toList, hcs]; omega
      simp only at hx
      rw [List.drop_left' e1, hs1, hl] at hx
      refine hp' x ?_
      rw [show n * 1 + m = n + m by omega, ← List.drop_drop] at hx
      exact List.mem_of_mem_drop hx
    · have holds : ∀ j u, xs[j]? = some u → w.cell? ((⟨g, 0, none⟩ : Addr).add j) = some u := hown.cells (g := g) rfl
      have hr' := run_append_grow (P := P) w t ty e i z E.ht hi hz ⟨g, 0, none⟩ n cap xs (by rw [hs1]; exact hown.1) holds a m c news (by rw [hs1]; omega) hnews (by omega) (by omega) (growslice_fits (by omega) (by rw [hb1]; exact hb))
      rw [hr] at hr'
      injection hr' with e1 e2
      subst e1; subst e2
      intro g' hv
      obtain rfl : w.heap.size = g' := by simpa [Value.ownBlock] using hv
      refine ⟨_, _, _, heap_alloc_new w.drew _, fun x hx => ?_⟩
      have e1 : (xs ++ news).length = n + m := by rw [List.length_append, hown.1, hl]; omega
      simp only [Array.toList_append] at hx
      rw [List.drop_left' e1, E.hz] at hx
      exact mem_zeroCells hx

theorem wpListIn_append_spare {F : Fence} {k0 : Nat} {P : Program} {t e : TypeId} {z : Value} {bytes : Nat} (E : El P t e z bytes) (w : World) {ops : Array Oper} {rest : List Oper} {o : Oper} {a : Act} {Q : Exit → Act → World → Prop}
    (hg : o.guard = none) (s x : Operand) (hop : o.op = Op.call { callee := Callee.builtin Builtin.append, args := #[s, x], argTypes := #[t, t] })
    (base : Nat) (v : Value) (k : Nat) (xs : List Value) (hs : a.eval s = v) (hown : w.ownsRow base e 1 v k xs) (hw : Spare z k v w) (ad : Addr) (m c : Nat) (news : List Value) (hx : a.eval x = .slice (some ad) m c) (hn : news.length = m)
    (hc : ∀ j u, news[j]? = some u → w.cell? (ad.add j) = some u) (h1c : ∀ u ∈ news, u.oneCell' = true) (b1 : k + m ≤ 1000000000000) (b2 : bytes ≤ 100) (b3 : base ≤ w.heap.size)
    (hK : ∀ v' w', w'.ownsRow base e 1 v' (k + m) (xs ++ news) → w.grownBy w' v.ownBlock → Spare z (k + m) v' w' → wpListIn F k0 P ops Q rest (a.put o.dst v') w') :
    wpListIn F k0 P ops Q (o :: rest) a w := by
  refine wpListIn_plain hg fun K hK' => ?_
  obtain ⟨v', w', hrun, r1, r2, _, r3⟩ := run_append_spare (P := P) E w base o.type v k xs hown hw ad m c news hn hc h1c b1 b2 b3
  unfold Oper.wpIn
  refine ⟨?_, ?_⟩
  · simp [Oper.about, hop, resolve, Target.leads, Sem.run_pure]
  · rw [Oper.semAt_plain F _ _ (by rw [hop]; intro c hc'; cases hc')]
    simp [execOp, hop, resolve, invoke, builtin, hs, hx, hrun, Result.andThen]
    exact hK' _ _ (hK v' w' r1 r2 r3)
end Go.Proofs.Ytdmodhcbcpmadaa
end

section
set_option linter.unusedSimpArgs false
set_option linter.unusedVariables false
namespace Go.Proofs.Ytdmodhcbcpmadaa
open Go.RowKit Go.Shelf Go.Sort

attribute [local go_sem] Oper.semAt_some

theorem ElStr : El Try.prog 37 9 (.string ByteArray.empty) 16 := ⟨Try.underlying37, by kernel_rfl, rfl⟩
theorem cell_one_w (w : World) (v : Value) (t : TypeId) : ∀ j u, [v][j]? = some u → (w.alloc (.cells #[v] t)).cell? ((⟨w.heap.size, 0, none⟩ : Addr).add j) = some u := by
  intro j u hu
  match j, hu with
  | 0, hu =>
    simp at hu; subst hu
    have hadd : (⟨w.heap.size, 0, none⟩ : Addr).add 0 = ⟨w.heap.size, 0, none⟩ := rfl
    rw [hadd]
    exact cell_blk (T := t) (heap_alloc_new w _) 0
/-- what is kept between the rounds: the box holds a slice of what came; its spare cells are empty. -/
def BoxS (n₀ B : Nat) (pre : List (List UInt8)) (W : World) : Prop := ∃ v, Boxed W B 37 v ∧ W.ownsRow n₀ 9 1 v pre.length (pre.map encStr) ∧ Spare (.string ByteArray.empty) pre.length v W
theorem boxS_own (n₀ B : Nat) : Own (BoxS n₀ B) := by
  rintro s X Y row ⟨v, hv, hr, hG⟩ hg hrow
  have hne : v.ownBlock = none ∨ v.ownBlock ≠ row := by
    rcases hr.2 with ⟨rfl, _⟩ | ⟨g, cap, cur, rfl, _, hgb, _⟩
    · exact .inl rfl
    · refine .inr fun e' => ?_
      obtain ⟨o, ho, hc⟩ := hrow g (by simpa [Value.ownBlock] using e'.symm)
      rw [hgb] at ho; cases ho; cases hc
  refine ⟨v, hv.kept hg (fun e' => ?_), hr.kept hg hne, hG.kept hg hne⟩
  obtain ⟨o, ho, hc⟩ := hrow B e'.symm
  rw [show X.heap[B]? = _ from hv] at ho; cases ho; cases hc
set_option maxRecDepth 100000 in
set_option maxHeartbeats 4000000 in
theorem appendSeq_s (n : Nat) (hn : 2 ≤ n) (g : Nat) (lb : Array Value) (eg : ∀ args w, (callFunc g args).run Try.prog w = .ok (.enter g args) w) (S : List (List UInt8) → Prop) (N : Nat) (hN : N ≤ 1000000) (w : World) (hseq : SeqStopsK Fence.wide (n - 1) Try.prog g lb (fun x => #[encStr x]) KeepsWalks S (fun _ => True) N w) :
    CallsIn Fence.wide n Try.prog 84 #[.slice none 0 0, .func (.func g) #[] lb] w fun e w' => ∃ v ss, e = .returned v ∧ S ss ∧ w'.ownsRow w.heap.size 9 1 v ss.length (ss.map encStr) ∧ Spare (.string ByteArray.empty) ss.length v w' ∧ Below w.heap.size w w' := by
  refine callsIn_of_wp_marks Try.func84 rfl trivial ?_ rfl
  simp only [Try.ntmps84, List.size_toArray, List.length_cons, List.length_nil, Nat.reduceAdd, Nat.reduceSub, Array.replicate_succ, Array.replicate_zero, List.push_toArray, List.append_toArray, List.nil_append, List.cons_append]
  gi_wp2
  have bO := Boxed.new w 37 (.slice none 0 0)
  have hB0 := (Below.refl _ w).alloc (Nat.le_refl _) (.cells #[.slice none 0 0] 37)
  have hsz : (w.alloc (.cells #[.slice none 0 0] 37)).heap.size = w.heap.size + 1 := by simp
  obtain ⟨W0, hW0⟩ : ∃ W0, w.alloc (.cells #[.slice none 0 0] 37) = W0 := ⟨_, rfl⟩
  rw [hW0] at bO hB0 hsz ⊢
  clear hW0
  refine wpIn_rangeFunc_ownF rfl (by omega) (gf := g) (lb := lb) rfl trivial eg hseq walksK_t walksK_b hB0 (fun _ => rfl)
    (fun pre W => BoxS w.heap.size w.heap.size pre W ∧ Below w.heap.size w W) (fun _ _ _ => False)
    (OwnFrom.and (Own.from (boxS_own _ _) _) (ownFrom_below (Nat.le_refl _) (by omega))) (fun _ => fun s A B row h _ _ => h)
    ⟨⟨_, bO, World.ownsRow_nil _ _ _ _, Spare.nil _ _ _⟩, hB0⟩
    (fun x => { tmps := #[.slice none 0 0, .func (.func g) #[] lb, .pointer (some ⟨w.heap.size, 0, none⟩), undef, .slice none 0 0, encStr x, .func (.func g) #[] lb, encStr x, undef, undef, undef, undef, undef], defers := [] })
    ?assign ?body ?done ?stop
  case assign =>
    intro l x W K hK
    gi_wp2
    exact hK
  case body =>
    rintro l pre x W ⟨⟨v, hv, hrow, hsp⟩, hB⟩ hlt
    have hc := hv.cell
    have hsw := hB.size
    gi_wp2_with (gi_at_builtin; refine wpListIn_append_spare ElStr _ rfl _ _ rfl w.heap.size _ _ _ rfl (hrow.alloc _) (hsp.kept (World.grownBy_alloc _ _ none) (by cases hq : v.ownBlock <;> simp)) ⟨W.heap.size, 0, none⟩ 1 1 [encStr x] rfl rfl (cell_one_w _ _ _) (by simp [Value.oneCell', encStr]) (by omega) (by omega) (by simp; omega) ?_; intro v' w2 hown' hgrow hsp'; obtain ⟨g', cap', rfl⟩ := ownsRow_succ hown'; obtain ⟨hv1', hv2, hr2, hk2, hb2⟩ := hv.appended (by decide) hrow hsw (by omega) hown' hgrow; have hc1 := hv1'.cell; have hf1 := hv1'.frozen)
    refine ⟨hk2, hk2.walks, ⟨_, hv2, by rw [List.map_append, List.length_append]; exact hr2, ?_⟩, hB.trans hb2⟩
    rw [List.length_append]
    exact hsp'.kept (grownBy_setCell' w2 w.heap.size _) (.inr (hv1'.not_row (by decide) hown').symm)
  case done =>
    rintro D ys W hD hS ⟨⟨v, hv, hrow, hsp⟩, hB⟩ hK
    have hc := hv.cell
    gi_wp2
    refine ⟨by simp, .inl ⟨_, _, rfl, run_takeDeferred hK, ?_⟩⟩
    have hrow' := ownsRow_putObj hrow (.deferred none) hK rfl
    refine ⟨_, results_tmp rfl _ _ _, v, ys, rfl, hS, ownsRow_putObj hrow _ hK rfl, hsp.kept (grownBy_putObj' W D _) ?_, hB.trans (belowK_b (w := w) (Nat.le_refl _) W D _ _ (by omega) hK rfl rfl)⟩
    rcases hrow.2 with ⟨rfl, _⟩ | ⟨g', cap, cur, rfl, _, hgb, _⟩
    · exact .inl rfl
    · refine .inr fun e' => ?_
      obtain rfl : g' = D := by simpa [Value.ownBlock] using e'
      rw [hgb] at hK; cases hK
  case stop => intro D c pre W _ _ h _; exact h.elim
set_option maxHeartbeats 1000000 in
theorem collect_s (n : Nat) (hn : 3 ≤ n) (g : Nat) (lb : Array Value) (eg : ∀ args w, (callFunc g args).run Try.prog w = .ok (.enter g args) w) (S : List (List UInt8) → Prop) (N : Nat) (hN : N ≤ 1000000) (w : World) (hseq : SeqStopsK Fence.wide (n - 1 - 1) Try.prog g lb (fun x => #[encStr x]) KeepsWalks S (fun _ => True) N w) :
    CallsIn Fence.wide n Try.prog 77 #[.func (.func g) #[] lb] w fun e w' => ∃ v ss, e = .returned v ∧ S ss ∧ w'.ownsRow w.heap.size 9 1 v ss.length (ss.map encStr) ∧ Spare (.string ByteArray.empty) ss.length v w' ∧ Below w.heap.size w w' := by
  have h1 : 1 ≤ n := by omega
  have hf1 : Fence.wide.fn 84 := trivial
  have HC := Lib.hid (appendSeq_s (n - 1) (by omega) g lb eg S N hN w hseq)
  refine callsIn_of_wp Try.func77 rfl trivial ?_ rfl
  simp only [Try.ntmps77, List.size_toArray, List.length_cons, List.length_nil, Nat.reduceAdd, Nat.reduceSub, Array.replicate_succ, Array.replicate_zero, List.push_toArray, List.append_toArray, List.nil_append, List.cons_append]
  gi_wp2_with (gi_at_call 84; refine HC.out.mono ?_; rintro e w' ⟨v, ss, rfl, hS, hrow, hsp, hb⟩)
  go_ret
  exact ⟨v, ss, rfl, hS, hrow, hsp, hb⟩
theorem spare_sorted {w : World} {g n : Nat} {os : Array Obj} {cur : Array Value} {e : TypeId} {z : Value} {cap : Nat} {ts : List (List UInt8)} (hb : w.heap[g]? = some (.cells cur e (0, 0))) (h : ∀ x ∈ cur.toList.drop ts.length, x = z) :
    Spare z ts.length (.slice (some ⟨g, 0, none⟩) ts.length cap) (grow (putRow encStr (Sort.ahead w n) g 0 ts.toArray) os) := fun g' hv => by
  obtain rfl : g = g' := by simpa [Value.ownBlock] using hv
  refine ⟨_, _, _, heap_sorted _ hb, fun x hx => h x ?_⟩
  rw [List.mem_iff_getElem?] at hx ⊢
  obtain ⟨i, hi⟩ := hx
  refine ⟨i, ?_⟩
  rw [List.getElem?_drop, Array.getElem?_toList] at hi ⊢
  simp only [putCells, Array.getElem?_mapIdx, List.size_toArray, Nat.zero_add, Nat.zero_le, true_and] at hi
  simpa [show ¬ ts.length + i < ts.length by omega] using hi
set_option maxHeartbeats 1000000 in
theorem sorted_s (n : Nat) (hn : 4 ≤ n) (g : Nat) (lb : Array Value) (eg : ∀ args w, (callFunc g args).run Try.prog w = .ok (.enter g args) w) (S : List (List UInt8) → Prop) (N : Nat) (hN : N ≤ 1000000) (w : World) (hseq : SeqStopsK Fence.wide (n - 1 - 1 - 1) Try.prog g lb (fun x => #[encStr x]) KeepsWalks S (fun _ => True) N w)
    (hS0 : ∀ ss, S ss → ss.length ≤ 1000000) :
    CallsIn Fence.wide n Try.prog 61 #[.func (.func g) #[] lb] w fun e w' => ∃ v ss, e = .returned v ∧ S ss ∧ w'.ownsRow w.heap.size 9 1 v ss.length ((ss.mergeSort fun x y => decide (x ≤ y)).map encStr) ∧ Spare (.string ByteArray.empty) ss.length v w' ∧ Below w.heap.size w w' := by
  have h1 : 1 ≤ n := by omega
  have hf1 : Fence.wide.fn 77 := trivial
  have hf2 : Fence.wide.fn 78 := trivial
  have HC := Lib.hid (collect_s (n - 1) (by omega) g lb eg S N hN w hseq)
  have HS0 := Lib.hid (sorts_files (n - 1))
  refine callsIn_of_wp Try.func61 rfl trivial ?_ rfl
  simp only [Try.ntmps61, List.size_toArray, List.length_cons, List.length_nil, Nat.reduceAdd, Nat.reduceSub, Array.replicate_succ, Array.replicate_zero, List.push_toArray, List.append_toArray, List.nil_append, List.cons_append]
  gi_wp2_with (gi_at_call 77; refine HC.out.mono ?_; rintro e W ⟨v, ss, rfl, hS, hrow, hsp, hb⟩)
  have hl := hS0 ss hS
  rcases hrow.2 with ⟨rfl, hz⟩ | ⟨gb, cap, cur, rfl, hbase, hgb, r1, r2, r3, r4⟩
  · obtain rfl : ss = [] := List.eq_nil_of_length_eq_zero hz
    have HN := Lib.hid (HS0.out.2 none 0 W)
    gi_wp2_with (gi_at_call 78; refine HN.out.mono ?_; rintro e w' ⟨rfl, rfl⟩)
    go_ret
    exact ⟨_, [], rfl, hS, by simpa using hrow, hsp, hb⟩
  · have hH : Sort.Holds encStr W gb 0 ss.toArray := holds_of_block hgb (by simpa using r4)
    have hgl : gb < W.heap.size := (Array.getElem?_eq_some_iff.1 hgb).1
    have HS := Lib.hid (HS0.out.1 gb 0 cap ss W hH hgl (by omega))
    gi_wp2_with (gi_at_call 78; refine HS.out.mono ?_; rintro e w' ⟨rfl, nn, os, rfl⟩)
    go_ret
    refine ⟨_, ss, rfl, hS, ownsRow_sorted (by simp) hbase hgb r1 r2 r3, ?_, hb.grown (grownBy_sorted _) hb.size (fun j hj => by cases hj; exact hbase)⟩
    have hml : (ss.mergeSort fun x y => decide (x ≤ y)).length = ss.length := by simp
    have := spare_sorted (n := nn) (os := os) (z := .string ByteArray.empty) (cap := cap) (ts := ss.mergeSort fun x y => decide (x ≤ y)) hgb (by
      obtain ⟨cur', e', m', hc', hp'⟩ := hsp gb rfl
      rw [hgb] at hc'; cases hc'
      rw [hml]; exact hp')
    rw [hml] at this
    exact this
set_option maxRecDepth 100000 in
set_option maxHeartbeats 2000000 in
theorem namesS_at {w : World} {p m : Nat} {d : Dk} (h : DiskAt w p m d) : Calls Try.prog 20 #[.pointer (some ⟨p, 0, none⟩)] w fun e w' => ∃ v, e = .returned v ∧ w'.ownsRow w.heap.size 9 1 v d.fs.length ((names d.fs).map encStr) ∧ Spare (.string ByteArray.empty) d.fs.length v w' ∧ Below w.heap.size w w' := by
  obtain ⟨vs, hm, ha⟩ := h.files
  have hlen := ha.length
  have hnm := ha.names_eq
  have HN := Lib.hid (none_at h)
  have HK := Lib.hid (callsIn_wide.1 (keys_files (some m) w))
  have hct := h.ok.count
  have hmlt := hm.lt
  have hks : strKeys (.map (kd vs)) = names vs := names_kd vs
  have hsz : Maps.size (.map (kd vs)) = d.fs.length := by rw [kd_size, hlen]
  have hseq : SeqStopsK Fence.wide 2 Try.prog 79 #[.pointer (some ⟨w.heap.size, 0, none⟩)] (fun x => #[encStr x]) KeepsWalks (fun ss => ss.Perm (strKeys (.map (kd vs))) ∧ ∀ x, x ∈ ss ↔ Maps.has (.map (kd vs)) (.string x) = true) (fun pre => pre.Nodup ∧ ∀ x ∈ pre, Maps.has (.map (kd vs)) (.string x) = true) (Maps.size (.map (kd vs))) (w.alloc (.cells #[.map (some m)] 53)) :=
    seqStopsA_iff.1 (seqStops_iff.1 (AnyZ.keys_stops (ρ := keysL_ren) { keysL with } Fence.wide _ trivial rfl (by omega) w.heap.size m vs.length (.map (kd vs)) _ (by simp) (by simp) (by
      obtain ⟨es, clock, hb, Ft, hs, hD⟩ := hm
      exact ⟨es, clock, (Below.heap_alloc _ _ m hmlt).trans hb, Ft, hs, hD⟩)))
  have HS := Lib.hid (callsIn_wide.1 (sorted_s 5 (by omega) 79 _ (enters_of Try.func79 (by kernel_rfl) rfl) _ _ (by rw [hsz]; omega) _ (fun l J Jx W h1 h2 h3 h4 h5 => (hseq l J Jx W h1 h2 h3 h4 h5).mono fun e w' h => ⟨h.1, h.2.imp id (fun ⟨pre, _, q⟩ => ⟨pre, trivial, q⟩)⟩) (fun ss hS => by rw [hS.1.length_eq, hks, hnm]; unfold names; rw [List.length_map]; omega)))
  have HRS := Lib.hid h.ok.rising
  have HKS := Lib.hid (hks.trans hnm)
  have HLN : Hid ((names d.fs).length = d.fs.length) := Lib.hid (by unfold names; simp)
  have c1 := cell_blk h.own 1
  simp only [List.getElem?_toArray, List.getElem?_cons_succ, List.getElem?_cons_zero] at c1
  clear h hm ha hlen hnm hks hsz hseq hmlt
  go_enter Try.func20, Try.ntmps20
  go_wp2_with fail
  refine HN.out.mono ?_
  rintro e w1 ⟨rfl, rfl⟩
  go_wp2_with fail
  refine HK.out.mono ?_
  rintro e w2 ⟨rfl, rfl⟩
  go_wp2_with fail
  refine HS.out.mono ?_
  rintro e w3 ⟨v, ss, rfl, hp, ho, hsp, hb⟩
  have hp1 := hp.1
  rw [HKS.out] at hp1
  rw [names_sorted HRS.out hp1] at ho
  have hl : ss.length = d.fs.length := by rw [← HLN.out]; exact hp1.length_eq
  rw [hl] at ho hsp
  have HO := Lib.hid ho; have HSP := Lib.hid hsp
  have HB := Lib.hid ((below_alloc w1 (.cells #[.map (some m)] UM)).trans (hb.mono (below_alloc w1 _).size))
  have hsz2 := (below_alloc w1 (.cells #[.map (some m)] UM)).size
  clear hp hp1 ho hb hl hsp
  go_wp2_with fail
  go_ret
  exact ⟨v, rfl, own_base HO.out hsz2, HSP.out, HB.out⟩
end Go.Proofs.Ytdmodhcbcpmadaa
end

section
set_option linter.unusedSimpArgs false
set_option linter.unusedVariables false
namespace Go.Proofs.Ytdmodhcbcpmadaa
open Go.RowKit

theorem wpList_append_spare {P : Program} {t e : TypeId} {z : Value} {bytes : Nat} (E : El P t e z bytes) {ops : Array Oper} {rest : List Oper} {o : Oper} {a : Act} {Q : Exit → Act → World → Prop} {w : World} (hgd : o.guard = none) (s x : Operand)
    (ho : o.op = .call { callee := .builtin .append, args := #[s, x], argTypes := #[t, t] }) (base : Nat)
    (v : Value) (n : Nat) (xs : List Value) (hs : a.eval s = v) (hown : w.ownsRow base e 1 v n xs) (hsp : Spare z n v w) (ad : Addr) (news : List Value) (m c : Nat) (hx : a.eval x = .slice (some ad) m c) (hm : news.length = m) (hc : ∀ j u, news[j]? = some u → w.cell? (ad.add j) = some u)
    (h1 : ∀ u ∈ news, u.oneCell' = true) (h63 : n + m ≤ 1000000000000) (hbytes : bytes ≤ 100) (hB : base ≤ w.heap.size)
    (h : ∀ v' w', w'.ownsRow base e 1 v' (n + m) (xs ++ news) → w.grownBy w' v.ownBlock → Spare z (n + m) v' w' → wpList P ops Q rest (a.put o.dst v') w') : wpList P ops Q (o :: rest) a w :=
  wpList_plain hgd fun _ hK => by
    obtain ⟨v', w', hr, h2, h3, _, h4⟩ := run_append_spare E w base o.type v n xs hown hsp ad m c news hm hc h1 h63 hbytes hB
    unfold Oper.wp execOp
    simp only [ho, resolve, invoke, builtin, Sem.run_bind, Sem.run_pure, Result.andThen_ok, List.map_toArray, List.map_cons, List.map_nil, hs, hx, hr]
    exact hK _ _ (h v' w' h2 h3 h4)
def GotS (w : World) (l : List UInt8) (e : Ending) (w' : World) : Prop := ∃ v, e = .returned v ∧ w'.ownsRow w.heap.size 5 1 v l.length (bcells l) ∧ Spare (.int .u8 0) l.length v w' ∧ Below w.heap.size w w'
theorem rd_add {w : World} {B : Nat} {a : Addr} {xs : List Value} (h : Rd w B (some a) xs) : ∀ j u, xs[j]? = some u → w.cell? (a.add j) = some u := fun j u hu => by
  obtain ⟨b, off, e, _, hc⟩ := h j u hu
  injection e with e
  subst e
  have hadd : (⟨b, off, none⟩ : Addr).add j = ⟨b, off + j, none⟩ := by unfold Addr.add; split <;> simp_all
  rw [hadd]; exact hc
theorem spare0 (w : World) (z : Value) (e : TypeId) : Spare z 0 (.slice (some ⟨w.heap.size, 0, none⟩) 0 0) (w.alloc (.cells #[] e)) := fun g hg => by
  obtain rfl : w.heap.size = g := by simpa [Value.ownBlock] using hg
  exact ⟨_, _, _, heap_alloc_new _ _, fun x hx => by simp at hx⟩
theorem size_le_alloc (w : World) (o : Obj) : w.heap.size ≤ (w.alloc o).heap.size := by simp
set_option maxRecDepth 100000 in
set_option maxHeartbeats 1000000 in
theorem clone_bytesS (l : List UInt8) (hl : l.length ≤ 100000000) (A : Option Addr) (cap B : Nat) (w : World) (hA : Bs w B A l) (hA0 : A = none → l = []) (hB : B ≤ w.heap.size) :
    Calls Try.prog 64 #[.slice A l.length cap] w (GotS w l) := by
  have HA := Lib.hid hA.rd
  have HA0 := Lib.hid hA0
  clear hA hA0
  have q22 : ∀ (w : World) (a : Option Addr) (n c n' c' : Nat), (binOp .eql 29 (.slice a n c) (.slice none n' c')).run Try.prog w = .ok (.bool a.isNone) w := fun w a n c n' c' => Lib.run_eql_slice_nil w _ _ a n c n' c' Try.underlying29
  rcases A with _ | a
  · obtain rfl := HA0.out rfl
    go_enter Try.func64, Try.ntmps64
    go_wp2_with fail
    go_ret
    exact ⟨_, rfl, World.ownsRow_nil _ _ _ _, Spare.nil _ _ _, Below.refl _ _⟩
  · generalize hn : l.length = n at *
    have HL := Lib.hid hn
    clear hn
    go_enter Try.func64, Try.ntmps64
    go_wp2_with (at_builtin; refine wpList_append_spare E5 rfl (.tmp 5) (.tmp 6) rfl w.heap.size _ 0 [] rfl (owns0S w _ _ _ (Nat.le_refl _)) (spare0 w _ _) a (bcells l) n cap rfl (by rw [← HL.out]; exact bcells_length l) (rd_add ((HA.out).keep fun b o hb => World.cell?_alloc_lt _ _ _ (Nat.lt_of_lt_of_le hb hB))) (bcells_one l) (by omega) (by omega) (size_le_alloc w _) ?_; intro v' w' h2 h3 h4; have H2 := Lib.hid h2; have H3 := Lib.hid ((below_alloc w _).grown h3 (below_alloc w _).size (fun k hk => by cases hk; exact Nat.le_refl _)); have H4 := Lib.hid h4; clear h2 h3 h4)
    go_ret
    have h2 := H2.out
    have h4 := H4.out
    rw [List.nil_append, Nat.zero_add] at h2
    rw [Nat.zero_add] at h4
    exact ⟨_, rfl, by rw [HL.out]; exact h2, by rw [HL.out]; exact h4, H3.out⟩
def ReadS (w : World) (r : List UInt8 × Nat) (e : Ending) (w' : World) : Prop := ∃ v, e = .returned (.tuple #[v, .int .i64 r.2]) ∧ w'.ownsRow w.heap.size 5 1 v r.1.length (bcells r.1) ∧ Spare (.int .u8 0) r.1.length v w' ∧ Below w.heap.size w w'
set_option maxRecDepth 100000 in
set_option maxHeartbeats 2000000 in
theorem readS_at {w : World} {p m : Nat} {d : Dk} (h : DiskAt w p m d) (k : Nm) (hk : k.length ≤ 9223372036854775807) :
    Calls Try.prog 23 #[.pointer (some ⟨p, 0, none⟩), .string (str k)] w (ReadS w (d.read k)) := by
  have H := Lib.hid h
  clear h
  go_enter Try.func23, Try.ntmps23
  go_wp2_with fail
  refine (none_at H.out).mono ?_
  rintro e w1 ⟨rfl, rfl⟩
  obtain ⟨A, cap, hv, hl1, hl2, hbs, hA0, hcap⟩ := look_file H.out k hk
  have HBS := Lib.hid hbs; have HA0 := Lib.hid hA0
  have x3 := cell_blk H.out.own 1
  simp only [List.getElem?_toArray, List.getElem?_cons_succ, List.getElem?_cons_zero] at x3
  have l1 := hl1 w1 rfl
  obtain ⟨_, _, _, _, _, _, hlen, _⟩ := hv
  clear hl1 hl2 hbs hA0
  cases hh : d.has k with
  | false =>
    rw [hh] at l1
    have HE : Hid (d.read k = ([], 6)) := Lib.hid (by unfold Dk.read; rw [if_pos hh])
    clear hh
    go_wp2_with fail
    go_ret2
    exact ⟨.slice none 0 0, by rw [HE.out]; rfl, by rw [HE.out]; exact World.ownsRow_nil _ _ _ _, Spare.nil _ _ _, below_alloc w1 _⟩
  | true =>
    rw [hh] at l1
    have HE : Hid (d.read k = ((d.file k).b, 0)) := Lib.hid (by unfold Dk.read; rw [if_neg (by rw [hh]; decide)])
    clear hh
    have hcl := fun o => clone_bytesS (d.file k).b (by omega) A cap w1.heap.size (w1.alloc o) (HBS.out.below (below_alloc w1 o)) HA0.out (below_alloc w1 o).size
    have HCL := Lib.hid hcl
    clear hcl
    go_wp2_with fail
    refine (HCL.out _).mono ?_
    rintro e w2 ⟨v2, rfl, h2, h3, h5⟩
    obtain ⟨A2, cap2, rfl, _, _, _⟩ := own_rdS h2
    have H2 := Lib.hid h2; have H3 := Lib.hid h3
    have H5 := Lib.hid ((below_alloc w1 _).trans (h5.mono (below_alloc w1 _).size))
    have hz := (below_alloc w1 (.cells #[.slice none 0 0, .int .i64 0, .bool false] 77)).size
    clear h2 h3 h5
    go_wp2_with fail
    go_ret2
    exact ⟨_, by rw [HE.out]; rfl, by rw [HE.out]; exact own_base H2.out (by simp), by rw [HE.out]; exact H3.out, H5.out⟩
end Go.Proofs.Ytdmodhcbcpmadaa
end

section
set_option linter.unusedSimpArgs false
set_option linter.unusedVariables false
namespace Go.Proofs.Ytdmodhcbcpmadaa
open Go.RowKit

/-- a row of bytes. -/
def AnyB (w : World) (g n : Nat) : Prop := ∃ cs, w.heap[g]? = some (.cells cs 5 (0, 0)) ∧ cs.size = n ∧ ∀ j, j < n → ∃ z, cs[j]? = some (.int .u8 z)
set_option maxRecDepth 100000 in
set_option maxHeartbeats 1000000 in
theorem overB_any (g n c : Nat) (hn : c ≤ 9223372036854775807) (w : World) (hg : AnyB w g c) :
    Calls Try.prog 58 #[.slice (some ⟨g, 0, none⟩) n c] w fun e w' => e = .returned (.tuple #[]) ∧ w.grownBy w' (some g) := by
  have HG := Lib.hid hg
  clear hg
  go_enter Try.func58, Try.ntmps58
  go_wp2_with fail
  go_loopw [3] (fun i wr => ∃ k : Nat, k ≤ c ∧ i = .int .i64 (k : Int) ∧ AnyB wr g c ∧ w.grownBy wr (some g)) (fun i _ => c - (intOf i).toNat)
  case atStart => exact ⟨0, by omega, by go_num, HG.out, World.grownBy.refl w _⟩
  case round =>
    obtain ⟨k, hk, rfl, ha, hb⟩ := hrel
    have Hb := Lib.hid hb
    clear hb
    by_cases hlt : k < c
    · obtain ⟨cs, h1, h2, h3⟩ := ha
      obtain ⟨z, hz⟩ := h3 k hlt
      have H1 := Lib.hid h1; have H2 := Lib.hid h2; have H3 := Lib.hid h3
      have c1 : wr.cell? ⟨g, k, none⟩ = some (.int .u8 z) := by
        rw [cell_blk h1]; exact hz
      have c2 : wr.frozen? ⟨g, k, none⟩ = false := free_blk h1 _
      clear h1 h2 h3 hz
      go_wp2_with fail
      go_roundw
      case rel => 
        refine ⟨k + 1, by omega, by go_num, ?_, grown_setCell Hb.out rfl _⟩
        refine ⟨_, set_blk H1.out _ _, by simp [H2.out], fun j hj => ?_⟩
        by_cases e : j = k
        · subst e
          exact ⟨_, by rw [Array.getElem?_setIfInBounds_self]; simp [H2.out, hlt]; rfl⟩
        · obtain ⟨z', hz'⟩ := H3.out j hj
          exact ⟨z', by rw [Array.getElem?_setIfInBounds_ne (Ne.symm e)]; exact hz'⟩
      case measure => simp [intOf]; omega
    · obtain rfl : k = c := by omega
      go_wp2_with fail
      go_end0
      exact ⟨rfl, Hb.out⟩
/-- a row of texts: those from k on are short. -/
def AnyT (w : World) (g n k : Nat) : Prop := ∃ cs, w.heap[g]? = some (.cells cs 9 (0, 0)) ∧ cs.size = n ∧ ∀ j, k ≤ j → j < n → ∃ s : ByteArray, cs[j]? = some (.string s) ∧ s.size ≤ 1000
set_option maxRecDepth 100000 in
set_option maxHeartbeats 1000000 in
theorem overT_any (g n c : Nat) (hn : c ≤ 9223372036854775807) (w : World) (hg : AnyT w g c 0) :
    Calls Try.prog 57 #[.slice (some ⟨g, 0, none⟩) n c] w fun e w' => e = .returned (.tuple #[]) ∧ w.grownBy w' (some g) := by
  have HG := Lib.hid hg
  clear hg
  go_enter Try.func57, Try.ntmps57
  go_wp2_with fail
  go_loopw [3] (fun i wr => ∃ k : Nat, k ≤ c ∧ i = .int .i64 (k : Int) ∧ AnyT wr g c k ∧ w.grownBy wr (some g)) (fun i _ => c - (intOf i).toNat)
  case atStart => exact ⟨0, by omega, by go_num, HG.out, World.grownBy.refl w _⟩
  case round =>
    obtain ⟨k, hk, rfl, ha, hb⟩ := hrel
    have Hb := Lib.hid hb
    clear hb
    by_cases hlt : k < c
    · obtain ⟨cs, h1, h2, h3⟩ := ha
      obtain ⟨z, hz, hzs⟩ := h3 k (Nat.le_refl _) hlt
      have H1 := Lib.hid h1; have H2 := Lib.hid h2; have H3 := Lib.hid h3
      have c1 : wr.cell? ⟨g, k, none⟩ = some (.string z) := by
        rw [cell_blk h1]; exact hz
      have c2 : wr.frozen? ⟨g, k, none⟩ = false := free_blk h1 _
      clear h1 h2 h3 hz
      have hcc : ¬ 9223372036854775807 < z.size + 1 := by omega
      go_wp2_with fail
      go_roundw
      case rel => 
        refine ⟨k + 1, by omega, by go_num, ?_, grown_setCell Hb.out rfl _⟩
        refine ⟨_, set_blk H1.out _ _, by simp [H2.out], fun j hj1 hj => ?_⟩
        obtain ⟨z', hz', hs'⟩ := H3.out j (by omega) hj
        exact ⟨z', by rw [Array.getElem?_setIfInBounds_ne (by omega)]; exact hz', hs'⟩
      case measure => simp [intOf]; omega
    · obtain rfl : k = c := by omega
      go_wp2_with fail
      go_end0
      exact ⟨rfl, Hb.out⟩
theorem slice_spare {cur : Array Value} {n cap : Nat} {xs : List Value} {z : Value} (hsz : cur.size = cap) (ht : cur.toList.take n = xs) (hd : ∀ x ∈ cur.toList.drop n, x = z) (j : Nat) (hj : j < cap) :
    ∃ u, cur[j]? = some u ∧ (u ∈ xs ∨ u = z) := by
  have hj' : j < cur.toList.length := by rw [Array.length_toList, hsz]; exact hj
  refine ⟨cur.toList[j], by rw [← Array.getElem?_toList, List.getElem?_eq_getElem hj'], ?_⟩
  rcases Nat.lt_or_ge j n with h | h
  · left
    rw [← ht, List.mem_iff_getElem?]
    exact ⟨j, by rw [List.getElem?_take_of_lt h, List.getElem?_eq_getElem hj']⟩
  · right
    refine hd _ ?_
    rw [List.mem_iff_getElem?]
    exact ⟨j - n, by rw [List.getElem?_drop, show n + (j - n) = j by omega, List.getElem?_eq_getElem hj']⟩
theorem overB_at {w : World} {base n : Nat} {v : Value} {l : List UInt8} (h : w.ownsRow base 5 1 v n (bcells l)) (hs : Spare (.int .u8 0) n v w) :
    Calls Try.prog 58 #[v] w fun e w' => e = .returned (.tuple #[]) ∧ w.grownBy w' v.ownBlock := by
  rcases h.2 with ⟨rfl, rfl⟩ | ⟨g, cap, cur, rfl, hb, hg, hn, hc, hsz, ht⟩
  · go_enter Try.func58, Try.ntmps58
    go_wp2_with fail
    go_loopw [3] (fun i wr => i = .int .i64 0 ∧ wr = w) (fun i _ => 0)
    case atStart => exact ⟨rfl, rfl⟩
    case round =>
      obtain ⟨rfl, rfl⟩ := hrel
      go_wp2_with fail
      go_end0
      exact ⟨rfl, World.grownBy.refl _ _⟩
  · obtain ⟨cur', e', m', hc', hd⟩ := hs g rfl
    rw [hg] at hc'; cases hc'
    refine overB_any g n cap (by simpa [maxLen] using hc) w ⟨cur, hg, by omega, fun j hj => ?_⟩
    obtain ⟨u, hu, hm⟩ := slice_spare (by omega) (by simpa using ht) hd j hj
    rcases hm with hm | rfl
    · simp only [bcells, List.mem_map] at hm
      obtain ⟨b, _, rfl⟩ := hm
      exact ⟨_, hu⟩
    · exact ⟨_, hu⟩
theorem overT_at {w : World} {base n : Nat} {v : Value} {l : List (List UInt8)} (h : w.ownsRow base 9 1 v n (l.map encStr)) (hs : Spare (.string ByteArray.empty) n v w) (hl : ∀ x ∈ l, x.length ≤ 1000) :
    Calls Try.prog 57 #[v] w fun e w' => e = .returned (.tuple #[]) ∧ w.grownBy w' v.ownBlock := by
  rcases h.2 with ⟨rfl, rfl⟩ | ⟨g, cap, cur, rfl, hb, hg, hn, hc, hsz, ht⟩
  · go_enter Try.func57, Try.ntmps57
    go_wp2_with fail
    go_loopw [3] (fun i wr => i = .int .i64 0 ∧ wr = w) (fun i _ => 0)
    case atStart => exact ⟨rfl, rfl⟩
    case round =>
      obtain ⟨rfl, rfl⟩ := hrel
      go_wp2_with fail
      go_end0
      exact ⟨rfl, World.grownBy.refl _ _⟩
  · obtain ⟨cur', e', m', hc', hd⟩ := hs g rfl
    rw [hg] at hc'; cases hc'
    refine overT_any g n cap (by simpa [maxLen] using hc) w ⟨cur, hg, by omega, fun j _ hj => ?_⟩
    obtain ⟨u, hu, hm⟩ := slice_spare (by omega) (by simpa using ht) hd j hj
    rcases hm with hm | rfl
    · simp only [List.mem_map] at hm
      obtain ⟨b, hb', rfl⟩ := hm
      exact ⟨_, hu, by have := hl b hb'; simpa [ByteArray.size] using this⟩
    · exact ⟨_, hu, by decide⟩
end Go.Proofs.Ytdmodhcbcpmadaa
end
