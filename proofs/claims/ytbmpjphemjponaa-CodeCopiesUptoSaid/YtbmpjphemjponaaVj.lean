/- assizekit.OverValues, assizekit.OverCode: what is written over. -/
import Derived.Test.YtbmpjphemjponaaVi
set_option linter.unusedSimpArgs false
set_option linter.unusedVariables false
namespace Go.Proofs.Ytbmpjphemjponaa
open Go.RowKit

def Like (u u' : Value) : Prop := (∀ k x, u = .int k x → ∃ y, u' = .int k y) ∧ (∀ A n c, u = .slice A n c → u' = u)
theorem Like.refl (u : Value) : Like u u := ⟨fun k x h => ⟨x, h⟩, fun _ _ _ _ => rfl⟩
theorem Like.trans {a b c : Value} (h1 : Like a b) (h2 : Like b c) : Like a c := by
  refine ⟨fun k x h => ?_, fun A n c h => ?_⟩
  · obtain ⟨y, hy⟩ := h1.1 k x h
    exact h2.1 k y hy
  · have e := h1.2 A n c h
    rw [h2.2 A n c (e.trans h), e]
/-- of what stands from L on, ints alone have turned. -/
structure Kin (L : Nat) (w w' : World) : Prop where
  below : Below L w w'
  blk : ∀ (g : Nat) (cs : Array Value) (T : TypeId), L ≤ g → w.heap[g]? = some (Obj.cells cs T (0, 0)) → ∃ cs' : Array Value, w'.heap[g]? = some (Obj.cells cs' T (0, 0)) ∧ ∀ (j : Nat) (u : Value), cs[j]? = some u → ∃ u' : Value, cs'[j]? = some u' ∧ Like u u'
theorem Kin.refl (L : Nat) (w : World) : Kin L w w := ⟨Below.refl _ _, fun g cs T _ h => ⟨cs, h, fun j u hu => ⟨u, hu, Like.refl u⟩⟩⟩
theorem Kin.trans {L : Nat} {a b c : World} (h1 : Kin L a b) (h2 : Kin L b c) : Kin L a c := by
  refine ⟨h1.below.trans h2.below, fun g cs T hL h => ?_⟩
  obtain ⟨cs1, e1, f1⟩ := h1.blk g cs T hL h
  obtain ⟨cs2, e2, f2⟩ := h2.blk g cs1 T hL e1
  refine ⟨cs2, e2, fun j u hu => ?_⟩
  obtain ⟨u1, g1, l1⟩ := f1 j u hu
  obtain ⟨u2, g2, l2⟩ := f2 j u1 g1
  exact ⟨u2, g2, l1.trans l2⟩
theorem Kin.of_below {L : Nat} {w w' : World} (h : Below w.heap.size w w') (hL : L ≤ w.heap.size) : Kin L w w' :=
  ⟨h.mono hL, fun g cs T _ hg => ⟨cs, (h.block g (lt_blk hg)).trans hg, fun j u hu => ⟨u, hu, Like.refl u⟩⟩⟩
/-- an int stands there. -/
def ICell (w : World) (L : Nat) (b o : Nat) (k : IntKind) : Prop := L ≤ b ∧ ∃ (cs : Array Value) (T : TypeId) (x : Int), w.heap[b]? = some (Obj.cells cs T (0, 0)) ∧ cs[o]? = some (.int k x)
def SCell (w : World) (L : Nat) (b o : Nat) (p : Slc) (n : Nat) : Prop := L ≤ b ∧ ∃ (cs : Array Value) (T : TypeId), w.heap[b]? = some (Obj.cells cs T (0, 0)) ∧ cs[o]? = some (.slice p.1 n p.2)
theorem ICell.kin {w w' : World} {L b o : Nat} {k : IntKind} (h : ICell w L b o k) (hk : Kin L w w') : ICell w' L b o k := by
  obtain ⟨h1, cs, T, x, h2, h3⟩ := h
  obtain ⟨cs', e1, f1⟩ := hk.blk b cs T h1 h2
  obtain ⟨u', g1, l1⟩ := f1 o _ h3
  obtain ⟨y, rfl⟩ := l1.1 k x rfl
  exact ⟨h1, cs', T, y, e1, g1⟩
theorem SCell.kin {w w' : World} {L b o : Nat} {p : Slc} {n : Nat} (h : SCell w L b o p n) (hk : Kin L w w') : SCell w' L b o p n := by
  obtain ⟨h1, cs, T, h2, h3⟩ := h
  obtain ⟨cs', e1, f1⟩ := hk.blk b cs T h1 h2
  obtain ⟨u', g1, l1⟩ := f1 o _ h3
  obtain rfl := l1.2 _ _ _ rfl
  exact ⟨h1, cs', T, e1, g1⟩
theorem ICell.cell {w : World} {L b o : Nat} {k : IntKind} (h : ICell w L b o k) : ∃ x, w.cell? ⟨b, o, none⟩ = some (.int k x) := by
  obtain ⟨h1, cs, T, x, h2, h3⟩ := h
  exact ⟨x, by rw [cell_blk h2]; exact h3⟩
theorem ICell.free {w : World} {L b o : Nat} {k : IntKind} (h : ICell w L b o k) (j : Nat) : w.frozen? ⟨b, j, none⟩ = false := by
  obtain ⟨h1, cs, T, x, h2, h3⟩ := h
  exact free_blk h2 j
theorem SCell.cell {w : World} {L b o : Nat} {p : Slc} {n : Nat} (h : SCell w L b o p n) : w.cell? ⟨b, o, none⟩ = some (.slice p.1 n p.2) := by
  obtain ⟨h1, cs, T, h2, h3⟩ := h
  rw [cell_blk h2]; exact h3
/-- an int is written. -/
theorem Kin.set {L : Nat} {w w' : World} (h : Kin L w w') {b o : Nat} {k : IntKind} (hc : ICell w' L b o k) (y : Int) : Kin L w (w'.setCell ⟨b, o, none⟩ (.int k y)) := by
  obtain ⟨h1, cs, T, x, h2, h3⟩ := hc
  refine h.trans ⟨(Below.refl _ _).grown (set1 h2 o (.int k y)).2 ?_ (fun j hj => by injection hj with hj; omega), fun g ds U hL hg => ?_⟩
  · have := lt_blk h2; omega
  · by_cases e : g = b
    · subst e
      rw [h2] at hg
      injection hg with hg
      injection hg with a1 a2
      subst a1 a2
      refine ⟨_, (set1 h2 o (.int k y)).1, fun j u hu => ?_⟩
      by_cases ej : o = j
      · subst ej
        rw [h3] at hu
        injection hu with hu
        subst hu
        have hlt := (Array.getElem?_eq_some_iff.1 h3).1
        exact ⟨_, Array.getElem?_setIfInBounds_self_of_lt hlt, fun k' x' e => by injection e with e1 e2; subst e1; exact ⟨y, rfl⟩, fun A n c e => by cases e⟩
      · exact ⟨u, by rw [Array.getElem?_setIfInBounds_ne ej]; exact hu, Like.refl u⟩
    · exact ⟨ds, ((set1 h2 o (.int k y)).2.block g (lt_blk hg) (by intro e2; injection e2 with e2; exact e e2)).trans hg, fun j u hu => ⟨u, hu, Like.refl u⟩⟩
def ShV (w : World) (L : Nat) (p : Slc) (n : Nat) : Prop := ∀ i, i < n → ∃ b o, p.1 = some ⟨b, o, none⟩ ∧ ICell w L b (o + i * 2 + 1) .u64
def ShI (w : World) (L : Nat) (p : Slc) (n : Nat) : Prop := ∀ i, i < n → ∃ b o, p.1 = some ⟨b, o, none⟩ ∧ ICell w L b (o + i * 4) .u8
def ShN (w : World) (L : Nat) (p : Slc) (n : Nat) : Prop := ∀ i, i < n → ∃ (b o : Nat) (q : Slc) (m : Nat), p.1 = some ⟨b, o, none⟩ ∧ SCell w L b (o + i * 5) q m ∧ m ≤ 4000000 ∧ ICell w L b (o + i * 5 + 1) .i64 ∧ ICell w L b (o + i * 5 + 3) .i64 ∧ ShI w L q m
def ShB (w : World) (L : Nat) (p : Slc) (n : Nat) : Prop := ∀ i, i < n → ∃ (b o : Nat) (q : Slc) (m : Nat) (r : Slc) (k : Nat), p.1 = some ⟨b, o, none⟩ ∧ SCell w L b (o + i * 3) q m ∧ m ≤ 4000000 ∧ ICell w L b (o + i * 3 + 1) .i64 ∧ SCell w L b (o + i * 3 + 2) r k ∧ k ≤ 4000000 ∧ ShV w L q m ∧ ShN w L r k
theorem ShV.kin {w w' : World} {L : Nat} {p : Slc} {n : Nat} (h : ShV w L p n) (hk : Kin L w w') : ShV w' L p n := fun i hi => by
  obtain ⟨b, o, h1, h2⟩ := h i hi
  exact ⟨b, o, h1, h2.kin hk⟩
theorem ShI.kin {w w' : World} {L : Nat} {p : Slc} {n : Nat} (h : ShI w L p n) (hk : Kin L w w') : ShI w' L p n := fun i hi => by
  obtain ⟨b, o, h1, h2⟩ := h i hi
  exact ⟨b, o, h1, h2.kin hk⟩
theorem ShN.kin {w w' : World} {L : Nat} {p : Slc} {n : Nat} (h : ShN w L p n) (hk : Kin L w w') : ShN w' L p n := fun i hi => by
  obtain ⟨b, o, q, m, h1, h2, h3, h4, h5, h6⟩ := h i hi
  exact ⟨b, o, q, m, h1, h2.kin hk, h3, h4.kin hk, h5.kin hk, h6.kin hk⟩
theorem ShB.kin {w w' : World} {L : Nat} {p : Slc} {n : Nat} (h : ShB w L p n) (hk : Kin L w w') : ShB w' L p n := fun i hi => by
  obtain ⟨b, o, q, m, r, k, h1, h2, h3, h4, h5, h6, h7, h8⟩ := h i hi
  exact ⟨b, o, q, m, r, k, h1, h2.kin hk, h3, h4.kin hk, h5.kin hk, h6, h7.kin hk, h8.kin hk⟩
/-- the own rows have these shapes. -/
theorem own_cell {w : World} {L e sz n : Nat} {p : Slc} {xs : List Value} (h : w.ownsRow L e sz (sv p n) n xs) (h0 : 0 < n) : ∃ (b : Nat) (cs : Array Value), p.1 = some ⟨b, 0, none⟩ ∧ L ≤ b ∧ w.heap[b]? = some (Obj.cells cs e (0, 0)) ∧ ∀ (j : Nat) (u : Value), xs[j]? = some u → cs[j]? = some u := by
  rcases h.2 with ⟨_, h2⟩ | ⟨g, cap, cur, h1, h2, h3, h4, h5, h6, h7⟩
  · omega
  · unfold sv at h1
    injection h1 with a1 a2 a3
    refine ⟨g, cur, a1, h2, h3, fun j u hu => ?_⟩
    rw [← h7, List.getElem?_take] at hu
    split at hu
    · simpa using hu
    · cases hu
theorem OwV.sh {w : World} {L : Nat} {p : Slc} {l : List Vl} (h : OwV w L p l) : ShV w L p l.length := fun i hi => by
  obtain ⟨b, cs, h1, h2, h3, h4⟩ := own_cell h (by omega)
  refine ⟨b, 0, h1, h2, cs, _, l[i].b, h3, ?_⟩
  rw [Nat.zero_add]
  apply h4
  rw [flat_get vc_len l i 1 (by omega), List.getElem?_eq_getElem hi]
  rfl
theorem OwI.sh {w : World} {L : Nat} {p : Slc} {l : List Ins} (h : OwI w L p l) : ShI w L p l.length := fun i hi => by
  obtain ⟨b, cs, h1, h2, h3, h4⟩ := own_cell h (by omega)
  refine ⟨b, 0, h1, h2, cs, _, l[i].op, h3, ?_⟩
  rw [Nat.zero_add]
  apply h4
  have := flat_get ic_len l i 0 (by omega)
  rw [Nat.add_zero] at this
  rw [this, List.getElem?_eq_getElem hi]
  rfl
theorem OwNs.sh {w : World} {L : Nat} {p : Slc} {l : List Nd} (h : OwNs w L p l) (hs : ∀ i, i < l.length → NdSmall (l.getD i default)) : ShN w L p l.length := fun i hi => by
  obtain ⟨ns, rfl, h1, h2⟩ := h
  rw [List.length_map] at hi
  have hs := hs i (by rw [List.length_map]; exact hi)
  obtain ⟨b, cs, k1, k2, k3, k4⟩ := own_cell h1 (by omega)
  have e0 := flat_get (f := fun x : Nd × Slc => ndc x.1 x.2) ndc_len ns i 0 (by omega)
  have e1 := flat_get (f := fun x : Nd × Slc => ndc x.1 x.2) ndc_len ns i 1 (by omega)
  have e3 := flat_get (f := fun x : Nd × Slc => ndc x.1 x.2) ndc_len ns i 3 (by omega)
  rw [List.getElem?_eq_getElem hi] at e0 e1 e3
  refine ⟨b, 0, ns[i].2, ns[i].1.code.length, k1, ⟨k2, cs, _, k3, ?_⟩, ?_, ⟨k2, cs, _, ns[i].1.kind, k3, ?_⟩, ⟨k2, cs, _, ns[i].1.next, k3, ?_⟩, (h2 _ (List.getElem_mem hi)).sh⟩
  · rw [Nat.zero_add]; exact k4 _ _ e0
  · simpa [NdSmall, List.getD_eq_getElem?_getD, List.getElem?_eq_getElem hi] using hs
  · rw [Nat.zero_add]; exact k4 _ _ e1
  · rw [Nat.zero_add]; exact k4 _ _ e3
theorem OwBs.sh {w : World} {L : Nat} {p : Slc} {l : List Bd} (h : OwBs w L p l) (hs : ∀ i, i < l.length → BdSmall (l.getD i default)) : ShB w L p l.length := fun i hi => by
  obtain ⟨ns, rfl, h1, h2⟩ := h
  rw [List.length_map] at hi
  have hs := hs i (by rw [List.length_map]; exact hi)
  have e : (ns.map (·.1)).getD i default = ns[i].1 := by simp [List.getD_eq_getElem?_getD, List.getElem?_eq_getElem hi]
  rw [e] at hs
  obtain ⟨b, cs, k1, k2, k3, k4⟩ := own_cell h1 (by omega)
  have e0 := flat_get (f := fun x : Bd × Slc × Slc => bdc x.1 x.2.1 x.2.2) bdc_len ns i 0 (by omega)
  have e1 := flat_get (f := fun x : Bd × Slc × Slc => bdc x.1 x.2.1 x.2.2) bdc_len ns i 1 (by omega)
  have e2 := flat_get (f := fun x : Bd × Slc × Slc => bdc x.1 x.2.1 x.2.2) bdc_len ns i 2 (by omega)
  rw [List.getElem?_eq_getElem hi] at e0 e1 e2
  have hm := h2 _ (List.getElem_mem hi)
  refine ⟨b, 0, ns[i].2.1, ns[i].1.locals.length, ns[i].2.2, ns[i].1.nodes.length, k1, ⟨k2, cs, _, k3, ?_⟩, hs.1, ⟨k2, cs, _, ns[i].1.stack, k3, ?_⟩, ⟨k2, cs, _, k3, ?_⟩, hs.2.1, hm.1.sh, hm.2.sh hs.2.2⟩
  · rw [Nat.zero_add]; exact k4 _ _ e0
  · rw [Nat.zero_add]; exact k4 _ _ e1
  · rw [Nat.zero_add]; exact k4 _ _ e2
set_option maxRecDepth 100000 in
set_option maxHeartbeats 1000000 in
theorem over_values (p : Slc) (n : Nat) (hn : n ≤ 4000000) (L : Nat) (w : World) (h : ShV w L p n) (hL : L ≤ w.heap.size) :
    Calls Try.prog 36 #[.slice p.1 n p.2] w fun e w' => e = .returned (.tuple #[]) ∧ Kin L w w' := by
  have H := Lib.hid h
  clear h
  obtain ⟨A, cp⟩ := p
  go_enter Try.func36, Try.ntmps36
  go_wp2_with fail
  go_loopw [2] (fun iv wr => ∃ k : Nat, k ≤ n ∧ iv = .int .i64 k ∧ Kin L w wr) (fun iv _ => n - (intOf iv).toNat)
  case atStart => exact ⟨0, by omega, rfl, Kin.refl _ _⟩
  case round =>
    obtain ⟨k, hk, rfl, hb⟩ := hrel
    by_cases hlt : k < n
    · obtain ⟨b, o, hA, hc⟩ := H.out k hlt
      dsimp only at hA
      subst hA
      have hc := hc.kin hb
      obtain ⟨x, hx⟩ := hc.cell
      have fz := hc.free
      have Hc := Lib.hid hc; have Hb := Lib.hid hb
      clear hc hb
      go_wp2_with fail
      go_roundw
      case rel => exact ⟨k + 1, by omega, by go_num, Hb.out.set Hc.out _⟩
      case measure => simp [intOf]; omega
    · obtain rfl : k = n := by omega
      go_wp2_with fail
      go_end0
      exact ⟨rfl, hb⟩
end Go.Proofs.Ytbmpjphemjponaa
