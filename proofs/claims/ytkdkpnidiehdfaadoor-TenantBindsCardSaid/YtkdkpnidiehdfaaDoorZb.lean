/- tenants in memory. -/
import Derived.Deep.MidRow
import Derived.Test.YtkdkpnidiehdfaaDoorZp
import Derived.Test.YtkdkpnidiehdfaaDoorAs
import Derived.Test.YtkdkpnidiehdfaaDoorDm
set_option linter.unusedSimpArgs false
set_option linter.unusedVariables false
namespace Go.Proofs.YtkdkpnidiehdfaaDoor
open Go.RowKit

/-- a tenant's cells. -/
def tnl (t : Tn) : List Value := .string (str t.nm) :: (bcells t.tok ++ [.int .i64 t.res, .int .i64 t.jobs, .int .i64 t.conns])
def tnv (t : Tn) : Value := .agg (tnl t).toArray
/-- digests of 32 bytes each. -/
def Toks (ts : List Tn) : Prop := ∀ x ∈ ts, x.tok.length = 32
theorem tn0_tok : tn0.tok.length = 32 := rfl
theorem Toks.get {ts : List Tn} (h : Toks ts) (i : Nat) : (ts.getD i tn0).tok.length = 32 := by
  rw [List.getD_eq_getElem?_getD]
  cases he : ts[i]? with
  | none => rfl
  | some x => exact h x (List.mem_of_getElem? he)
theorem tnl_length {t : Tn} (h : t.tok.length = 32) : (tnl t).length = 36 := by simp [tnl, bcells, h]
theorem tnl_size {t : Tn} (h : t.tok.length = 32) : (tnl t).toArray.size = 36 := by rw [List.size_toArray, tnl_length h]
theorem tnl_one (t : Tn) : ∀ u ∈ tnl t, u.oneCell' = true := by
  intro u hu
  simp only [tnl, List.mem_cons, List.mem_append, List.mem_singleton, List.not_mem_nil, or_false, bcells, List.mem_map] at hu
  rcases hu with rfl | ⟨c, _, rfl⟩ | rfl | rfl | rfl <;> rfl
theorem tnl_name (t : Tn) : (tnl t)[0]? = some (.string (str t.nm)) := rfl
theorem tnl_tok {t : Tn} (h : t.tok.length = 32) (j : Nat) (v : Value) (hv : (bcells t.tok)[j]? = some v) : (tnl t)[1 + j]? = some v := by
  have hj : j < (bcells t.tok).length := (List.getElem?_eq_some_iff.1 hv).1
  rw [tnl, Nat.add_comm, List.getElem?_cons_succ, List.getElem?_append_left hj, hv]
theorem tnl_res {t : Tn} (h : t.tok.length = 32) : (tnl t)[33]? = some (.int .i64 t.res) := by
  rw [tnl, List.getElem?_cons_succ, List.getElem?_append_right (by simp [bcells, h])]; simp [bcells, h]
theorem tnl_jobs {t : Tn} (h : t.tok.length = 32) : (tnl t)[34]? = some (.int .i64 t.jobs) := by
  rw [tnl, List.getElem?_cons_succ, List.getElem?_append_right (by simp [bcells, h])]; simp [bcells, h]
theorem tnl_conns {t : Tn} (h : t.tok.length = 32) : (tnl t)[35]? = some (.int .i64 t.conns) := by
  rw [tnl, List.getElem?_cons_succ, List.getElem?_append_right (by simp [bcells, h])]; simp [bcells, h]
def tnc (ts : List Tn) : List Value := ts.flatMap tnl
theorem tnc_app (a b : List Tn) : tnc (a ++ b) = tnc a ++ tnc b := by simp [tnc]
theorem tnc_length : ∀ {ts : List Tn}, Toks ts → (tnc ts).length = ts.length * 36
  | [], _ => rfl
  | t :: ts, h => by
    have h2 : Toks ts := fun x hx => h x (List.mem_cons_of_mem _ hx)
    have := tnc_length h2
    unfold tnc at *
    rw [List.flatMap_cons, List.length_append, this, tnl_length (h t (List.mem_cons_self ..)), List.length_cons]
    omega
theorem tnc_one (ts : List Tn) : ∀ u ∈ tnc ts, u.oneCell' = true := by
  intro u hu
  obtain ⟨t, _, ht⟩ := List.mem_flatMap.1 hu
  exact tnl_one t u ht
theorem tnc_get : ∀ {ts : List Tn}, Toks ts → ∀ (i j : Nat), i < ts.length → j < 36 → (tnc ts)[i * 36 + j]? = (tnl (ts.getD i tn0))[j]?
  | [], _, i, j, hi, _ => absurd hi (by simp)
  | t :: ts, h, 0, j, _, hj => by
    unfold tnc
    rw [List.flatMap_cons, Nat.zero_mul, Nat.zero_add, List.getElem?_append_left (by rw [tnl_length (h t (List.mem_cons_self ..))]; exact hj)]
    rfl
  | t :: ts, h, i + 1, j, hi, hj => by
    have h2 : Toks ts := fun x hx => h x (List.mem_cons_of_mem _ hx)
    have := tnc_get h2 i j (by simpa using hi) hj
    have hl := tnl_length (h t (List.mem_cons_self ..))
    unfold tnc at *
    rw [List.flatMap_cons, List.getElem?_append_right (by omega), hl, show (i + 1) * 36 + j - 36 = i * 36 + j by omega, this]
    rfl
/-- a slice of tenants that reads as ts. -/
def Tns (w : World) (B : Nat) (A : Option Addr) (ts : List Tn) : Prop :=
  ∀ i, i < ts.length → ∃ b off, A = some ⟨b, off, none⟩ ∧ b < B ∧ w.rangeAt b (off + i * 36) (tnl (ts.getD i tn0))
theorem Tns.keep {w w' : World} {B : Nat} {A : Option Addr} {ts : List Tn} (h : Tns w B A ts) (hk : ∀ b o v, b < B → w.cell? ⟨b, o, none⟩ = some v → w'.cell? ⟨b, o, none⟩ = some v) : Tns w' B A ts := fun i hi => by
  obtain ⟨b, off, e, hb, h1⟩ := h i hi
  exact ⟨b, off, e, hb, fun j v hv => hk b _ v hb (h1 j v hv)⟩
theorem Tns.below {w w' : World} {B : Nat} {A : Option Addr} {ts : List Tn} (h : Tns w B A ts) (hb : Below B w w') : Tns w' B A ts := h.keep fun b o v hbB hv => (hb.cell (p := ⟨b, o, none⟩) hbB).trans hv
theorem Tns.more {w : World} {B B' : Nat} {A : Option Addr} {ts : List Tn} (h : Tns w B A ts) (hB : B ≤ B') : Tns w B' A ts := fun i hi => by
  obtain ⟨b, off, e, hb, h1⟩ := h i hi
  exact ⟨b, off, e, by omega, h1⟩
theorem Tns.ext {w w' : World} {A : Option Addr} {ts : List Tn} (h : Tns w w.heap.size A ts) (hb : Below w.heap.size w w') : Tns w' w'.heap.size A ts := (h.below hb).more hb.size
theorem Tns.nil (w : World) (B : Nat) (A : Option Addr) : Tns w B A [] := fun i hi => absurd hi (by simp)
theorem Tns.rd {w : World} {B : Nat} {A : Option Addr} {ts : List Tn} (h : Tns w B A ts) (ht : Toks ts) : Rd w B A (tnc ts) := fun j u hu => by
  have hj : j < ts.length * 36 := by
    have := (List.getElem?_eq_some_iff.1 hu).1
    rwa [tnc_length ht] at this
  obtain ⟨b, off, e, hb, h1⟩ := h (j / 36) (by omega)
  refine ⟨b, off, e, hb, ?_⟩
  have h2 := tnc_get ht (j / 36) (j % 36) (by omega) (by omega)
  rw [show j / 36 * 36 + j % 36 = j by omega, hu] at h2
  have h3 := h1 (j % 36) u h2.symm
  rw [show off + j / 36 * 36 + j % 36 = off + j by omega] at h3
  exact h3
theorem Tns.of_rd {w : World} {B : Nat} {A : Option Addr} {ts : List Tn} (h : Rd w B A (tnc ts)) (ht : Toks ts) : Tns w B A ts := fun i hi => by
  have hl := tnl_length (ht.get i)
  obtain ⟨b, off, e, hb, h1⟩ := h (i * 36 + 0) (.string (str (ts.getD i tn0).nm)) (by rw [tnc_get ht i 0 hi (by omega)]; rfl)
  refine ⟨b, off, e, hb, fun j v hv => ?_⟩
  have hj : j < 36 := by have := (List.getElem?_eq_some_iff.1 hv).1; omega
  obtain ⟨b2, off2, e2, _, h2⟩ := h (i * 36 + j) v (by rw [tnc_get ht i j hi hj]; exact hv)
  rw [e] at e2
  injection e2 with e2; injection e2 with a1 a2; subst a1 a2
  rw [show off + i * 36 + j = off + (i * 36 + j) by omega]
  exact h2
theorem ES36 : ElS Tryd.prog 67 77 (tnv tn0) 36 72 := ⟨Tryd.underlying67, by kernel_rfl, by kernel_rfl, by decide⟩
theorem size36 {t : Tn} (h : t.tok.length = 32) : (Tryd.prog.info? 77).map (·.size) = some (tnl t).length := by rw [tnl_length h]; kernel_rfl
theorem size36' {t : Tn} (h : t.tok.length = 32) : (Tryd.prog.info? 77).map (·.size) = some (tnl t).toArray.size := by rw [List.size_toArray, tnl_length h]; kernel_rfl
theorem size32 {l : List UInt8} (h : l.length = 32) : (Tryd.prog.info? 25).map (·.size) = some (bcells l).length := by rw [show (bcells l).length = 32 by simp [bcells, h]]; kernel_rfl
/-- one tenant at a place. -/
def TnAt (w : World) (b o : Nat) (t : Tn) : Prop := w.rangeAt b o (tnl t)
theorem TnAt.name {w : World} {b o : Nat} {t : Tn} (h : TnAt w b o t) : w.cell? ⟨b, o, none⟩ = some (.string (str t.nm)) := h 0 _ rfl
theorem TnAt.tok {w : World} {b o : Nat} {t : Tn} (h : TnAt w b o t) (ht : t.tok.length = 32) : w.rangeAt b (o + 1) (bcells t.tok) := fun j v hv => by
  rw [Nat.add_assoc]; exact h (1 + j) v (tnl_tok ht j v hv)
theorem TnAt.res {w : World} {b o : Nat} {t : Tn} (h : TnAt w b o t) (ht : t.tok.length = 32) : w.cell? ⟨b, o + 33, none⟩ = some (.int .i64 t.res) := h 33 _ (tnl_res ht)
theorem TnAt.jobs {w : World} {b o : Nat} {t : Tn} (h : TnAt w b o t) (ht : t.tok.length = 32) : w.cell? ⟨b, o + 34, none⟩ = some (.int .i64 t.jobs) := h 34 _ (tnl_jobs ht)
theorem TnAt.conns {w : World} {b o : Nat} {t : Tn} (h : TnAt w b o t) (ht : t.tok.length = 32) : w.cell? ⟨b, o + 35, none⟩ = some (.int .i64 t.conns) := h 35 _ (tnl_conns ht)
theorem TnAt.of_block {w : World} {g : Nat} {T : TypeId} {t : Tn} (h : w.heap[g]? = some (.cells (tnl t).toArray T (0, 0))) : TnAt w g 0 t := fun j v hv => by
  rw [cell_blk h, Nat.zero_add]; simpa using hv
theorem wpList_wanted {P : Program} {ops : Array Oper} {rest : List Oper} {o : Oper} {a : Act} {w : World} {Q : Exit → Act → World → Prop} (hw : Region.wanted o (yielded ops a.tmps) = true)
    (h : ∀ K : Act → World → Prop, (∀ a w, wpList P ops Q rest a w → K a w) → o.wp P a w K Q) : wpList P ops Q (o :: rest) a w := by
  unfold wpList
  rw [if_pos hw]
  exact .inl (h _ (fun _ _ h => h))
/-- a digest read, in a guarded operation. -/
theorem wpList_load_dig {ops : Array Oper} {rest : List Oper} {op : Oper} {a : Act} {w : World} {Q : Exit → Act → World → Prop} (hw : Region.wanted op (yielded ops a.tmps) = true) (x : Operand) (ho : op.op = .load 25 x)
    (b o : Nat) (hx : a.eval x = .pointer (some ⟨b, o, none⟩)) (l : List UInt8) (hl : l.length = 32) (hc : w.rangeAt b o (bcells l))
    (h : wpList Tryd.prog ops Q rest (a.put op.dst (dg l)) w) : wpList Tryd.prog ops Q (op :: rest) a w :=
  wpList_wanted hw fun _ hK => wp_load_mid 25 x ho b o hx (bcells l) _ hc Tryd.underlying25 rfl (size32 hl) (hK _ _ h)
theorem wpList_eql_dig {ops : Array Oper} {rest : List Oper} {op : Oper} {a : Act} {w : World} {Q : Exit → Act → World → Prop} (hw : Region.wanted op (yielded ops a.tmps) = true) (x y : Operand) (ho : op.op = .binOp .eql 25 x y 25)
    (l m : List UInt8) (hl : l.length = 32) (hm : m.length = 32) (hx : a.eval x = dg l) (hy : a.eval y = dg m) (c : Bool) (hc : decide (l = m) = c)
    (h : wpList Tryd.prog ops Q rest (a.put op.dst (.bool c)) w) : wpList Tryd.prog ops Q (op :: rest) a w :=
  wpList_wanted hw fun K hK => by
    have h1 := eql_dig l m hl hm w
    have h2 := eqg_dig .eql x y l m w
    rw [hc] at h1
    unfold Oper.wp execOp
    simp only [ho, hx, hy, Sem.run_bind, h1, h2, Result.andThen_ok, Sem.run_pure]
    exact hK _ _ h
/-- a variable laid and written over. -/
theorem laid_new (w : World) (old cs : Array Value) (T : TypeId) : ((w.alloc (.cells old T)).setRow w.heap.size cs).heap[w.heap.size]? = some (.cells cs T (0, 0)) ∧ Below w.heap.size w ((w.alloc (.cells old T)).setRow w.heap.size cs) ∧ ((w.alloc (.cells old T)).setRow w.heap.size cs).heap.size = w.heap.size + 1 :=
  ⟨setRow_heap _ _ _ _ _ _ (heap_alloc_new _ _), below_setRow ((Below.refl _ _).alloc (Nat.le_refl _) _) (Nat.le_refl _) _, by simp⟩
end Go.Proofs.YtkdkpnidiehdfaaDoor
