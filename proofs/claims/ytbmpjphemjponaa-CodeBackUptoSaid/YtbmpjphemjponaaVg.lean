/- values, instructions, nodes, bodies in rows of the call's own; slices.Clone. -/
import Derived.Test.YtbmpjphemjponaaVf
import Derived.Test.YtbmpjphemjponaaAs
set_option linter.unusedSimpArgs false
set_option linter.unusedVariables false
namespace Go.Proofs.Ytbmpjphemjponaa
open Go.RowKit

theorem flat_length {α : Type} {f : α → List Value} {sz : Nat} (hf : ∀ x, (f x).length = sz) : ∀ l : List α, (l.flatMap f).length = l.length * sz
  | [] => by simp
  | a :: l => by rw [List.flatMap_cons, List.length_append, hf, flat_length hf l, List.length_cons, Nat.succ_mul, Nat.add_comm]
theorem flat_get {α : Type} {f : α → List Value} {sz : Nat} (hf : ∀ x, (f x).length = sz) : ∀ (l : List α) (i j : Nat), j < sz → (l.flatMap f)[i * sz + j]? = (l[i]?).bind fun x => (f x)[j]?
  | [], i, j, hj => by simp
  | a :: l, 0, j, hj => by
    rw [List.flatMap_cons, Nat.zero_mul, Nat.zero_add, List.getElem?_append_left (by rw [hf]; exact hj)]
    rfl
  | a :: l, i + 1, j, hj => by
    rw [List.flatMap_cons, List.getElem?_append_right (by rw [hf, Nat.succ_mul]; omega), hf, show (i + 1) * sz + j - sz = i * sz + j by rw [Nat.succ_mul]; omega, flat_get hf l i j hj]
    rfl
theorem row_rd {α : Type} [Inhabited α] {f : α → List Value} {w : World} {B sz : Nat} {A : Option Addr} (hf : ∀ x, (f x).length = sz) (hs : 0 < sz) {l : List α} (h : RowAt w B A sz l.length (fun i cs => cs = f (l.getD i default))) : Rd w B A (l.flatMap f) := fun j u hu => by
  have hj : j < l.length * sz := by rw [← flat_length hf l]; exact (List.getElem?_eq_some_iff.1 hu).1
  have hi : j / sz < l.length := (Nat.div_lt_iff_lt_mul hs).2 hj
  obtain ⟨b, o, cs, h1, h2, h3, h4, rfl⟩ := h (j / sz) hi
  refine ⟨b, o, h1, h2, ?_⟩
  have e : j / sz * sz + j % sz = j := by rw [Nat.mul_comm]; exact Nat.div_add_mod j sz
  have hm := Nat.mod_lt j hs
  rw [← e, flat_get hf l _ _ hm] at hu
  have := h4 (j % sz) hm
  rw [show o + j / sz * sz + j % sz = o + j by omega] at this
  rw [this, ← hu]
  simp [List.getD_eq_getElem?_getD, List.getElem?_eq_getElem hi]
theorem rd_row {α : Type} [Inhabited α] {f : α → List Value} {w : World} {B sz : Nat} {A : Option Addr} (hf : ∀ x, (f x).length = sz) (hs : 0 < sz) {l : List α} (h : Rd w B A (l.flatMap f)) : RowAt w B A sz l.length (fun i cs => cs = f (l.getD i default)) := fun i hi => by
  have key : ∀ j, j < sz → ∃ u, (f (l.getD i default))[j]? = some u ∧ (l.flatMap f)[i * sz + j]? = some u := fun j hj => by
    have e : (f (l.getD i default))[j]? = some ((f (l.getD i default))[j]'(by rw [hf]; exact hj)) := List.getElem?_eq_getElem _
    refine ⟨_, e, ?_⟩
    rw [flat_get hf l i j hj, ← e]
    simp [List.getD_eq_getElem?_getD, List.getElem?_eq_getElem hi]
  obtain ⟨u0, _, k0⟩ := key 0 hs
  obtain ⟨b, o, rfl, hb, _⟩ := h _ _ k0
  refine ⟨b, o, _, rfl, hb, hf _, fun j hj => ?_, rfl⟩
  obtain ⟨u, e1, e2⟩ := key j hj
  obtain ⟨b', o', e, _, hc⟩ := h _ _ e2
  injection e with e; injection e with a1 a2; subst a1 a2
  rw [e1, ← hc, Nat.add_assoc]
theorem vc_len (x : Vl) : (vc x).length = 2 := rfl
theorem ic_len (x : Ins) : (ic x).length = 4 := rfl
theorem flat_one {α : Type} {f : α → List Value} (hf : ∀ x, ∀ u ∈ f x, u.oneCell' = true) (l : List α) : ∀ u ∈ l.flatMap f, u.oneCell' = true := fun u hu => by
  obtain ⟨x, _, hx⟩ := List.mem_flatMap.1 hu
  exact hf x u hx
theorem vc_one (x : Vl) : ∀ u ∈ vc x, u.oneCell' = true := by intro u hu; simp only [vc, List.mem_cons, List.not_mem_nil, or_false] at hu; rcases hu with rfl | rfl <;> rfl
theorem ic_one (x : Ins) : ∀ u ∈ ic x, u.oneCell' = true := by intro u hu; simp only [ic, List.mem_cons, List.not_mem_nil, or_false] at hu; rcases hu with rfl | rfl | rfl | rfl <;> rfl
theorem ndc_one (x : Nd) (p : Slc) : ∀ u ∈ ndc x p, u.oneCell' = true := by intro u hu; simp only [ndc, List.mem_cons, List.not_mem_nil, or_false] at hu; rcases hu with rfl | rfl | rfl | rfl | rfl <;> rfl
theorem bdc_one (x : Bd) (p q : Slc) : ∀ u ∈ bdc x p q, u.oneCell' = true := by intro u hu; simp only [bdc, List.mem_cons, List.not_mem_nil, or_false] at hu; rcases hu with rfl | rfl | rfl <;> rfl

/-! ### own rows -/
def sv (p : Slc) (n : Nat) : Value := .slice p.1 n p.2
def OwV (w : World) (L : Nat) (p : Slc) (vs : List Vl) : Prop := w.ownsRow L 51 2 (sv p vs.length) vs.length (vs.flatMap vc)
def OwI (w : World) (L : Nat) (p : Slc) (vs : List Ins) : Prop := w.ownsRow L 53 4 (sv p vs.length) vs.length (vs.flatMap ic)
def OwN (w : World) (L : Nat) (p : Slc) (ns : List (Nd × Slc)) : Prop := w.ownsRow L 60 5 (sv p ns.length) ns.length (ns.flatMap fun x => ndc x.1 x.2) ∧ ∀ x ∈ ns, OwI w L x.2 x.1.code
def OwNs (w : World) (L : Nat) (p : Slc) (l : List Nd) : Prop := ∃ ns : List (Nd × Slc), ns.map (·.1) = l ∧ OwN w L p ns
def OwB (w : World) (L : Nat) (p : Slc) (xs : List (Bd × Slc × Slc)) : Prop := w.ownsRow L 57 3 (sv p xs.length) xs.length (xs.flatMap fun x => bdc x.1 x.2.1 x.2.2) ∧ ∀ x ∈ xs, OwV w L x.2.1 x.1.locals ∧ OwNs w L x.2.2 x.1.nodes
def OwBs (w : World) (L : Nat) (p : Slc) (l : List Bd) : Prop := ∃ xs : List (Bd × Slc × Slc), xs.map (·.1) = l ∧ OwB w L p xs
theorem ndc_len (x : Nd × Slc) : (ndc x.1 x.2).length = 5 := rfl
theorem bdc_len (x : Bd × Slc × Slc) : (bdc x.1 x.2.1 x.2.2).length = 3 := rfl
/-- they lie as they should. -/
theorem own_sl {w : World} {L e sz n : Nat} {p : Slc} {xs : List Value} (h : w.ownsRow L e sz (sv p n) n xs) : Rd w w.heap.size p.1 xs ∧ SlOk p n := by
  obtain ⟨A, cap, e1, h2, h3, h4⟩ := own_rdS h
  unfold sv at e1
  injection e1 with a1 a2 a3
  rw [a1]
  exact ⟨h2, by rw [a1]; exact h3, by rw [a3]; exact h4⟩
theorem OwV.at {w : World} {L : Nat} {p : Slc} {vs : List Vl} (h : OwV w L p vs) : VlsAt w w.heap.size p vs := ⟨rd_row vc_len (by omega) (own_sl h).1, (own_sl h).2⟩
theorem OwI.at {w : World} {L : Nat} {p : Slc} {vs : List Ins} (h : OwI w L p vs) : InsAt w w.heap.size p vs := ⟨rd_row ic_len (by omega) (own_sl h).1, (own_sl h).2⟩
theorem OwNs.at {w : World} {L : Nat} {p : Slc} {l : List Nd} (h : OwNs w L p l) : NdsAt w w.heap.size p l := by
  obtain ⟨ns, rfl, h1, h2⟩ := h
  have h3 := own_sl h1
  refine ⟨?_, by simpa using h3.2⟩
  have h4 := rd_row (α := Nd × Slc) (f := fun x => ndc x.1 x.2) ndc_len (by omega) h3.1
  rw [List.length_map]
  intro i hi
  obtain ⟨b, o, cs, a1, a2, a3, a4, a5⟩ := h4 i hi
  refine ⟨b, o, cs, a1, a2, a3, a4, (ns.getD i default).2, ?_, ?_⟩
  · rw [a5]; simp [List.getD_eq_getElem?_getD, List.getElem?_eq_getElem hi]
  · have := (h2 (ns.getD i default) (by rw [List.getD_eq_getElem?_getD, List.getElem?_eq_getElem hi]; exact List.getElem_mem hi)).at
    simpa [List.getD_eq_getElem?_getD, List.getElem?_eq_getElem hi] using this
theorem OwBs.at {w : World} {L : Nat} {p : Slc} {l : List Bd} (h : OwBs w L p l) : BdsAt w w.heap.size p l := by
  obtain ⟨ns, rfl, h1, h2⟩ := h
  have h3 := own_sl h1
  refine ⟨?_, by simpa using h3.2⟩
  have h4 := rd_row (α := Bd × Slc × Slc) (f := fun x => bdc x.1 x.2.1 x.2.2) bdc_len (by omega) h3.1
  rw [List.length_map]
  intro i hi
  obtain ⟨b, o, cs, a1, a2, a3, a4, a5⟩ := h4 i hi
  have hm : ns.getD i default ∈ ns := by rw [List.getD_eq_getElem?_getD, List.getElem?_eq_getElem hi]; exact List.getElem_mem hi
  have e : (ns.map (·.1)).getD i default = (ns.getD i default).1 := by simp [List.getD_eq_getElem?_getD, List.getElem?_eq_getElem hi]
  refine ⟨b, o, cs, a1, a2, a3, a4, (ns.getD i default).2.1, (ns.getD i default).2.2, ?_, ?_, ?_⟩
  · rw [a5, e]
  · rw [e]; exact (h2 _ hm).1.at
  · rw [e]; exact (h2 _ hm).2.at
/-- they stay. -/
theorem own_le {w : World} {L L' e sz n : Nat} {v : Value} {xs : List Value} (h : w.ownsRow L e sz v n xs) (hl : L' ≤ L) : w.ownsRow L' e sz v n xs := by
  refine ⟨h.1, ?_⟩
  rcases h.2 with h | ⟨g, cap, cur, h1, h2, h3⟩
  · exact .inl h
  · exact .inr ⟨g, cap, cur, h1, by omega, h3⟩
/-- but for a block of another type nothing has turned. -/
def Spares (T : TypeId) (w w' : World) : Prop := w.heap.size ≤ w'.heap.size ∧ ∀ (g : Nat) (cs : Array Value) (e : TypeId) (fz : Nat × Nat), e ≠ T → w.heap[g]? = some (Obj.cells cs e fz) → w'.heap[g]? = some (Obj.cells cs e fz)
theorem Spares.own {T : TypeId} {w w' : World} (h : Spares T w w') {L e sz n : Nat} {v : Value} {xs : List Value} (hne : e ≠ T) (ho : w.ownsRow L e sz v n xs) : w'.ownsRow L e sz v n xs := by
  refine ⟨ho.1, ?_⟩
  rcases ho.2 with ho | ⟨g, cap, cur, h1, h2, h3, h4⟩
  · exact .inl ho
  · exact .inr ⟨g, cap, cur, h1, h2, h.2 g cur e (0, 0) hne h3, h4⟩
theorem Spares.grown {T : TypeId} {w w' : World} {row : Option Nat} (h : w.grownBy w' row) (hr : ∀ k, row = some k → ∃ cs fz, w.heap[k]? = some (Obj.cells cs T fz)) : Spares T w w' := by
  refine ⟨h.size, fun g cs e fz hne hg => ?_⟩
  refine (h.block g (lt_blk hg) (fun er => ?_)).trans hg
  · obtain ⟨cs', fz', h2⟩ := hr g er.symm
    rw [hg] at h2
    injection h2 with h2; injection h2 with _ h2 _
    exact hne h2
theorem own_row {w : World} {L e sz n : Nat} {v : Value} {xs : List Value} (h : w.ownsRow L e sz v n xs) : ∀ k, v.ownBlock = some k → ∃ cs fz, w.heap[k]? = some (Obj.cells cs e fz) := fun k hk => by
  rcases h.2 with ⟨rfl, _⟩ | ⟨g, cap, cur, rfl, _, h3, _⟩
  · cases hk
  · injection hk with hk
    subst hk
    exact ⟨cur, (0, 0), h3⟩
theorem OwV.spares {w w' : World} {L : Nat} {p : Slc} {vs : List Vl} {T : TypeId} (h : OwV w L p vs) (hs : Spares T w w') (hT : 51 ≠ T) : OwV w' L p vs := hs.own hT h
theorem OwI.spares {w w' : World} {L : Nat} {p : Slc} {vs : List Ins} {T : TypeId} (h : OwI w L p vs) (hs : Spares T w w') (hT : 53 ≠ T) : OwI w' L p vs := hs.own hT h
theorem OwN.spares {w w' : World} {L : Nat} {p : Slc} {ns : List (Nd × Slc)} {T : TypeId} (h : OwN w L p ns) (hs : Spares T w w') (hT : 60 ≠ T) (hI : 53 ≠ T) : OwN w' L p ns := ⟨hs.own hT h.1, fun x hx => (h.2 x hx).spares hs hI⟩
theorem OwNs.spares {w w' : World} {L : Nat} {p : Slc} {l : List Nd} {T : TypeId} (h : OwNs w L p l) (hs : Spares T w w') (hT : 60 ≠ T) (hI : 53 ≠ T) : OwNs w' L p l := by
  obtain ⟨ns, h1, h2⟩ := h
  exact ⟨ns, h1, h2.spares hs hT hI⟩
theorem OwBs.spares {w w' : World} {L : Nat} {p : Slc} {l : List Bd} {T : TypeId} (h : OwBs w L p l) (hs : Spares T w w') (hB : 57 ≠ T) (hV : 51 ≠ T) (hT : 60 ≠ T) (hI : 53 ≠ T) : OwBs w' L p l := by
  obtain ⟨xs, h1, h2, h3⟩ := h
  exact ⟨xs, h1, hs.own hB h2, fun x hx => ⟨(h3 x hx).1.spares hs hV, (h3 x hx).2.spares hs hT hI⟩⟩
theorem OwV.below {w w' : World} {L : Nat} {p : Slc} {vs : List Vl} (h : OwV w L p vs) (hb : Below w.heap.size w w') : OwV w' L p vs := own_belowS h hb
theorem OwI.below {w w' : World} {L : Nat} {p : Slc} {vs : List Ins} (h : OwI w L p vs) (hb : Below w.heap.size w w') : OwI w' L p vs := own_belowS h hb
theorem OwN.below {w w' : World} {L : Nat} {p : Slc} {ns : List (Nd × Slc)} (h : OwN w L p ns) (hb : Below w.heap.size w w') : OwN w' L p ns := ⟨own_belowS h.1 hb, fun x hx => (h.2 x hx).below hb⟩
theorem OwNs.below {w w' : World} {L : Nat} {p : Slc} {l : List Nd} (h : OwNs w L p l) (hb : Below w.heap.size w w') : OwNs w' L p l := by
  obtain ⟨ns, h1, h2⟩ := h
  exact ⟨ns, h1, h2.below hb⟩
theorem OwBs.below {w w' : World} {L : Nat} {p : Slc} {l : List Bd} (h : OwBs w L p l) (hb : Below w.heap.size w w') : OwBs w' L p l := by
  obtain ⟨xs, h1, h2, h3⟩ := h
  exact ⟨xs, h1, own_belowS h2 hb, fun x hx => ⟨(h3 x hx).1.below hb, (h3 x hx).2.below hb⟩⟩
theorem OwV.le {w : World} {L L' : Nat} {p : Slc} {vs : List Vl} (h : OwV w L p vs) (hl : L' ≤ L) : OwV w L' p vs := own_le h hl
theorem OwI.le {w : World} {L L' : Nat} {p : Slc} {vs : List Ins} (h : OwI w L p vs) (hl : L' ≤ L) : OwI w L' p vs := own_le h hl
theorem OwN.le {w : World} {L L' : Nat} {p : Slc} {ns : List (Nd × Slc)} (h : OwN w L p ns) (hl : L' ≤ L) : OwN w L' p ns := ⟨own_le h.1 hl, fun x hx => (h.2 x hx).le hl⟩
theorem OwNs.le {w : World} {L L' : Nat} {p : Slc} {l : List Nd} (h : OwNs w L p l) (hl : L' ≤ L) : OwNs w L' p l := by
  obtain ⟨ns, h1, h2⟩ := h
  exact ⟨ns, h1, h2.le hl⟩
theorem OwBs.le {w : World} {L L' : Nat} {p : Slc} {l : List Bd} (h : OwBs w L p l) (hl : L' ≤ L) : OwBs w L' p l := by
  obtain ⟨xs, h1, h2, h3⟩ := h
  exact ⟨xs, h1, own_le h2 hl, fun x hx => ⟨(h3 x hx).1.le hl, (h3 x hx).2.le hl⟩⟩
/-- of a slice's value its parts. -/
theorem own_sv {w : World} {L e sz n : Nat} {v : Value} {xs : List Value} (h : w.ownsRow L e sz v n xs) : ∃ p : Slc, v = sv p n ∧ w.ownsRow L e sz (sv p n) n xs := by
  obtain ⟨A, cap, rfl, _⟩ := own_rdS h
  exact ⟨(A, cap), rfl, h⟩
/-- one more. -/
theorem OwNs.snoc {w w' : World} {L : Nat} {p : Slc} {l : List Nd} {n : Nd} {q : Slc} {v' : Value} {ns : List (Nd × Slc)} (h1 : ns.map (·.1) = l) (h2 : ∀ x ∈ ns, OwI w' L x.2 x.1.code) (hq : OwI w' L q n.code) (h3 : w'.ownsRow L 60 5 v' (ns.length + 1) ((ns.flatMap fun x => ndc x.1 x.2) ++ ndc n q)) :
    ∃ p', v' = sv p' (l.length + 1) ∧ OwNs w' L p' (l ++ [n]) := by
  obtain ⟨p', rfl, h4⟩ := own_sv h3
  subst h1
  refine ⟨p', by simp, ns ++ [(n, q)], by simp, ?_, fun x hx => ?_⟩
  · simpa using h4
  · rcases List.mem_append.1 hx with hx | hx
    · exact h2 x hx
    · simp only [List.mem_singleton] at hx; subst hx; exact hq
theorem OwBs.snoc {w w' : World} {L : Nat} {p : Slc} {l : List Bd} {n : Bd} {q r : Slc} {v' : Value} {ns : List (Bd × Slc × Slc)} (h1 : ns.map (·.1) = l) (h2 : ∀ x ∈ ns, OwV w' L x.2.1 x.1.locals ∧ OwNs w' L x.2.2 x.1.nodes) (hq : OwV w' L q n.locals) (hr : OwNs w' L r n.nodes) (h3 : w'.ownsRow L 57 3 v' (ns.length + 1) ((ns.flatMap fun x => bdc x.1 x.2.1 x.2.2) ++ bdc n q r)) :
    ∃ p', v' = sv p' (l.length + 1) ∧ OwBs w' L p' (l ++ [n]) := by
  obtain ⟨p', rfl, h4⟩ := own_sv h3
  subst h1
  refine ⟨p', by simp, ns ++ [(n, q, r)], by simp, ?_, fun x hx => ?_⟩
  · simpa using h4
  · rcases List.mem_append.1 hx with hx | hx
    · exact h2 x hx
    · simp only [List.mem_singleton] at hx; subst hx; exact ⟨hq, hr⟩
theorem ESV : ElS Try.prog 22 51 (.agg #[.int .u8 0, .int .u64 0]) 2 16 := ⟨Try.underlying22, by kernel_rfl, rfl, by decide⟩
theorem ESI : ElS Try.prog 54 53 (.agg #[.int .u8 0, .int .i64 0, .int .u8 0, .int .u64 0]) 4 32 := ⟨Try.underlying54, by kernel_rfl, rfl, by decide⟩
theorem ESN : ElS Try.prog 55 60 (.agg #[.slice none 0 0, .int .i64 0, .int .i64 0, .int .i64 0, .int .i64 0]) 5 56 := ⟨Try.underlying55, by kernel_rfl, rfl, by decide⟩
theorem ESB : ElS Try.prog 23 57 (.agg #[.slice none 0 0, .int .i64 0, .slice none 0 0]) 3 56 := ⟨Try.underlying23, by kernel_rfl, rfl, by decide⟩
def GotV (w : World) (n : Nat) (l : List Vl) (e : Ending) (w' : World) : Prop := ∃ q : Slc, e = .returned (sv q n) ∧ OwV w' w.heap.size q l ∧ Below w.heap.size w w'
def GotI (w : World) (n : Nat) (l : List Ins) (e : Ending) (w' : World) : Prop := ∃ q : Slc, e = .returned (sv q n) ∧ OwI w' w.heap.size q l ∧ Below w.heap.size w w'
set_option maxRecDepth 100000 in
set_option maxHeartbeats 1000000 in
theorem clone_values (l : List Vl) (n : Nat) (hn : l.length = n) (hl : n ≤ 4000000) (p : Slc) (B : Nat) (w : World) (hA : VlsAt w B p l) (hB : B ≤ w.heap.size) :
    Calls Try.prog 29 #[.slice p.1 n p.2] w (GotV w n l) := by
  have HA := Lib.hid (row_rd vc_len (by omega) hA.1)
  have HA0 := Lib.hid hA.2
  have HLn := Lib.hid (flat_length vc_len l)
  have HL := Lib.hid hn
  clear hA hn
  obtain ⟨A, cap⟩ := p
  have q22 : ∀ (w : World) (a : Option Addr) (n c n' c' : Nat), (binOp .eql 22 (.slice a n c) (.slice none n' c')).run Try.prog w = .ok (.bool a.isNone) w := fun w a n c n' c' => Lib.run_eql_slice_nil w _ _ a n c n' c' ESV.ht
  rcases A with _ | a
  · have hl0 : n = 0 := by rw [← HL.out]; exact HA0.out.1 rfl
    subst hl0
    obtain rfl := List.eq_nil_of_length_eq_zero HL.out
    go_enter Try.func29, Try.ntmps29
    go_wp2_with fail
    go_ret
    exact ⟨(none, 0), rfl, ⟨rfl, .inl ⟨rfl, rfl⟩⟩, Below.refl _ _⟩
  · go_enter Try.func29, Try.ntmps29
    go_wp2_with (at_builtin; refine wpList_append_srcS ESV rfl (.tmp 5) (.tmp 6) rfl w.heap.size _ 0 [] rfl (owns0S w _ _ _ (Nat.le_refl _)) B (some a) (l.flatMap vc) n cap rfl (by rw [HLn.out, HL.out]) ((HA.out).keep fun b o hb => World.cell?_alloc_lt _ _ _ (Nat.lt_of_lt_of_le hb hB)) (fun h => by cases h) (flat_one vc_one l) (by omega) (by omega) w (Nat.le_refl _) (below_alloc _ _) ?_; intro v' w' h2 h3 h4 h5; clear h4 h5; have H2 := Lib.hid h2; have H3 := Lib.hid h3; clear h2 h3)
    go_ret
    obtain ⟨q, rfl, h6⟩ := own_sv H2.out
    exact ⟨q, by rw [Nat.zero_add]; rfl, by unfold OwV; rw [HL.out]; simpa using h6, H3.out⟩
set_option maxRecDepth 100000 in
set_option maxHeartbeats 1000000 in
theorem clone_instrs (l : List Ins) (n : Nat) (hn : l.length = n) (hl : n ≤ 4000000) (p : Slc) (B : Nat) (w : World) (hA : InsAt w B p l) (hB : B ≤ w.heap.size) :
    Calls Try.prog 30 #[.slice p.1 n p.2] w (GotI w n l) := by
  have HA := Lib.hid (row_rd ic_len (by omega) hA.1)
  have HA0 := Lib.hid hA.2
  have HLn := Lib.hid (flat_length ic_len l)
  have HL := Lib.hid hn
  clear hA hn
  obtain ⟨A, cap⟩ := p
  have q22 : ∀ (w : World) (a : Option Addr) (n c n' c' : Nat), (binOp .eql 54 (.slice a n c) (.slice none n' c')).run Try.prog w = .ok (.bool a.isNone) w := fun w a n c n' c' => Lib.run_eql_slice_nil w _ _ a n c n' c' ESI.ht
  rcases A with _ | a
  · have hl0 : n = 0 := by rw [← HL.out]; exact HA0.out.1 rfl
    subst hl0
    obtain rfl := List.eq_nil_of_length_eq_zero HL.out
    go_enter Try.func30, Try.ntmps30
    go_wp2_with fail
    go_ret
    exact ⟨(none, 0), rfl, ⟨rfl, .inl ⟨rfl, rfl⟩⟩, Below.refl _ _⟩
  · go_enter Try.func30, Try.ntmps30
    go_wp2_with (at_builtin; refine wpList_append_srcS ESI rfl (.tmp 5) (.tmp 6) rfl w.heap.size _ 0 [] rfl (owns0S w _ _ _ (Nat.le_refl _)) B (some a) (l.flatMap ic) n cap rfl (by rw [HLn.out, HL.out]) ((HA.out).keep fun b o hb => World.cell?_alloc_lt _ _ _ (Nat.lt_of_lt_of_le hb hB)) (fun h => by cases h) (flat_one ic_one l) (by omega) (by omega) w (Nat.le_refl _) (below_alloc _ _) ?_; intro v' w' h2 h3 h4 h5; clear h4 h5; have H2 := Lib.hid h2; have H3 := Lib.hid h3; clear h2 h3)
    go_ret
    obtain ⟨q, rfl, h6⟩ := own_sv H2.out
    exact ⟨q, by rw [Nat.zero_add]; rfl, by unfold OwI; rw [HL.out]; simpa using h6, H3.out⟩
end Go.Proofs.Ytbmpjphemjponaa
