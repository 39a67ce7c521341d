/- slices.Clone of bytes; what stands in the loops of code.Read. -/
import Derived.Test.YtbmpjphemjponaaWt
import Derived.Test.YtbmpjphemjponaaWh
import Derived.Test.YtbmpjphemjponaaSc
import Derived.Test.YtbmpjphemjponaaKf
set_option linter.unusedSimpArgs false
set_option linter.unusedVariables false
namespace Go.Proofs.Ytbmpjphemjponaa
open Go.RowKit

def GotBs (w : World) (l : List UInt8) (e : Ending) (w' : World) : Prop := ∃ (A : Option Addr) (cap : Nat), e = .returned (.slice A l.length cap) ∧ Bs w' w'.heap.size A l ∧ (A = none → l = []) ∧ l.length ≤ cap ∧ Below w.heap.size w w'
set_option maxRecDepth 100000 in
set_option maxHeartbeats 1000000 in
theorem clone_bytes (l : List UInt8) (hl : l.length ≤ 100000000) (A : Option Addr) (cap B : Nat) (w : World) (hA : Bs w B A l) (hA0 : A = none → l = []) (hB : B ≤ w.heap.size) :
    Calls Try.prog 41 #[.slice A l.length cap] w (GotBs w l) := by
  have HA := Lib.hid hA.rd
  have HA0 := Lib.hid hA0
  clear hA hA0
  have q22 : ∀ (w : World) (a : Option Addr) (n c n' c' : Nat), (binOp .eql 31 (.slice a n c) (.slice none n' c')).run Try.prog w = .ok (.bool a.isNone) w := fun w a n c n' c' => Lib.run_eql_slice_nil w _ _ a n c n' c' Try.underlying31
  rcases A with _ | a
  · obtain rfl := HA0.out rfl
    go_enter Try.func41, Try.ntmps41
    go_wp2_with fail
    go_ret
    exact ⟨none, 0, rfl, fun j hj => absurd hj (Nat.not_lt_zero _), fun _ => rfl, Nat.le_refl _, Below.refl _ _⟩
  · generalize hn : l.length = n at *
    have HL := Lib.hid hn
    clear hn
    go_enter Try.func41, Try.ntmps41
    go_wp2_with (at_builtin; refine wpList_append_src E5 rfl (.tmp 5) (.tmp 6) rfl w.heap.size _ 0 [] rfl (owns0S w _ _ _ (Nat.le_refl _)) B (some a) (bcells l) n cap rfl (by rw [← HL.out]; exact bcells_length l) ((HA.out).keep fun b o hb => World.cell?_alloc_lt _ _ _ (Nat.lt_of_lt_of_le hb hB)) (fun h => by cases h) (bcells_one l) (by omega) (by omega) w (Nat.le_refl _) (below_alloc _ _) ?_; intro v' w' h2 h3 h4 h5; clear h4 h5; have H2 := Lib.hid h2; have H3 := Lib.hid h3; clear h2 h3)
    go_ret
    have h6 := own_rdS H2.out
    obtain ⟨A', cap', rfl, h7, h8, h9⟩ := h6
    rw [List.nil_append] at h7
    exact ⟨A', cap', by rw [Nat.zero_add, HL.out]; rfl, h7.bs, fun h => by have := h8 h; exact List.eq_nil_of_length_eq_zero (by rw [HL.out]; omega), by rw [HL.out]; omega, H3.out⟩
/-- in the loop over a body's nodes. -/
def RdF (wo : World) (g g7 : Nat) (p r : Slc) (lo : List Vl) (st : Int) (acc : List Nd) (s : Rst) (W : World) : Prop :=
  W.heap[g7]? = some (.cells #[.slice p.1 lo.length p.2, .int .i64 st, .slice r.1 acc.length r.2] 57 (0, 0)) ∧ OwV W wo.heap.size p lo ∧ OwNs W wo.heap.size r acc ∧ RdS W g s ∧ RK g wo W
theorem OwNs.rk {w w' : World} {L g : Nat} {p : Slc} {l : List Nd} (h : OwNs w L p l) (hk : RK g w w') : OwNs w' L p l := h.spares hk.1 (by decide) (by decide)
theorem OwBs.rk {w w' : World} {L g : Nat} {p : Slc} {l : List Bd} (h : OwBs w L p l) (hk : RK g w w') : OwBs w' L p l := h.spares hk.1 (by decide) (by decide) (by decide) (by decide)
theorem RdF.rk {wo : World} {g g7 : Nat} {p r : Slc} {lo : List Vl} {st : Int} {acc : List Nd} {s s' : Rst} {W W' : World} (h : RdF wo g g7 p r lo st acc s W) (hk : RK g W W') (hs : RdS W' g s') : RdF wo g g7 p r lo st acc s' W' := by
  obtain ⟨h1, h2, h3, h4, h5⟩ := h
  exact ⟨hk.blk (by decide) h1, h2.rk hk, h3.rk hk, hs, h5.trans hk⟩
theorem RdF.below {wo : World} {g g7 : Nat} {p r : Slc} {lo : List Vl} {st : Int} {acc : List Nd} {s : Rst} {W W' : World} (h : RdF wo g g7 p r lo st acc s W) (hb : Below W.heap.size W W') : RdF wo g g7 p r lo st acc s W' := by
  have hs := h.2.2.2.1
  exact h.rk (RK.of_below hb (Nat.le_of_lt hs.lt)) (hs.below hb)
theorem RdF.keepsW (wo : World) (g g7 : Nat) (p r : Slc) (lo : List Vl) (st : Int) (acc : List Nd) (s : Rst) : KeepsW (RdF wo g g7 p r lo st acc s) := fun _ _ h hb => h.below hb
/-- the node that has been read, behind it. -/
def RdF1 (wo : World) (g g7 : Nat) (p r : Slc) (lo : List Vl) (st : Int) (acc : List Nd) (x : Nd) (s : Rst) (v : Value) (W : World) : Prop :=
  RdF wo g g7 p r lo st acc s W ∧ ∃ q : Slc, v = ndv x q ∧ OwI W wo.heap.size q x.code
theorem RdF1.keepsW (wo : World) (g g7 : Nat) (p r : Slc) (lo : List Vl) (st : Int) (acc : List Nd) (x : Nd) (s : Rst) (v : Value) : KeepsW (RdF1 wo g g7 p r lo st acc x s v) := fun _ _ h hb => by
  obtain ⟨h1, q, h2, h3⟩ := h
  exact ⟨h1.below hb, q, h2, h3.below hb⟩
/-- and its cells in a block of their own. -/
def RdF2 (wo : World) (g g7 : Nat) (p r : Slc) (lo : List Vl) (st : Int) (acc : List Nd) (x : Nd) (s : Rst) (v : Value) (W : World) : Prop :=
  RdF wo g g7 p r lo st acc s W ∧ ∃ (q : Slc) (gb : Nat), v = .slice (some ⟨gb, 0, none⟩) 1 1 ∧ W.heap[gb]? = some (.cells (ndc x q).toArray 60 (0, 0)) ∧ OwI W wo.heap.size q x.code
theorem RdF2.keepsW (wo : World) (g g7 : Nat) (p r : Slc) (lo : List Vl) (st : Int) (acc : List Nd) (x : Nd) (s : Rst) (v : Value) : KeepsW (RdF2 wo g g7 p r lo st acc x s v) := fun _ _ h hb => by
  obtain ⟨h1, q, gb, h2, h3, h4⟩ := h
  exact ⟨h1.below hb, q, gb, h2, (hb.block _ (lt_blk h3)).trans h3, h4.below hb⟩
theorem node_eff {wo W : World} {g g7 : Nat} {p r : Slc} {lo : List Vl} {st : Int} {acc : List Nd} {s : Rst} (h : RdF wo g g7 p r lo st acc s W) (hwo : wo.heap.size ≤ W.heap.size) (INV : World → Prop) (hI : ∀ s' W', RdF wo g g7 p r lo st acc s' W' → INV W') :
    Calls Try.prog 44 #[.pointer (some ⟨g, 0, none⟩)] W fun e w'' => ∃ v, e = .returned v ∧ INV w'' ∧ True ∧ RdF1 wo g g7 p r lo st acc (rdNd s).1 (rdNd s).2 v w'' :=
  (node_rd s g W h.2.2.2.1).mono fun e w'' ⟨q, h1, h2, h3, h4⟩ => ⟨_, h1, hI _ _ (h.rk h4 h3), trivial, h.rk h4 h3, q, rfl, h2.le hwo⟩
end Go.Proofs.Ytbmpjphemjponaa
