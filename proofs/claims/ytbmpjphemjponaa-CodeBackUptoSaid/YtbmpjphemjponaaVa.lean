/- assizekit.WeightCode, Large. -/
import Derived.Test.YtbmpjphemjponaaVp
import Derived.Test.YtbmpjphemjponaaProg
import Derived.Test.YtbmpjphemjponaaSm
set_option linter.unusedSimpArgs false
set_option linter.unusedVariables false
namespace Go.Proofs.Ytbmpjphemjponaa
open Go.RowKit

/-- a sum over the first ones. -/
def psum {α : Type} (f : α → Nat) (l : List α) (k : Nat) : Nat := ((l.take k).map f).sum
theorem psum_succ {α : Type} [Inhabited α] (f : α → Nat) (l : List α) (k : Nat) (h : k < l.length) : psum f l (k + 1) = psum f l k + f (l.getD k default) := by
  unfold psum
  rw [List.take_succ_eq_append_getElem h, List.map_append, List.sum_append]
  simp [List.getD_eq_getElem?_getD, List.getElem?_eq_getElem h]
theorem psum_full {α : Type} (f : α → Nat) (l : List α) : psum f l l.length = (l.map f).sum := by simp [psum]
theorem psum_zero {α : Type} (f : α → Nat) (l : List α) : psum f l 0 = 0 := by simp [psum]
theorem psum_mono {α : Type} (f : α → Nat) (l : List α) (k : Nat) : psum f l k ≤ (l.map f).sum := by
  unfold psum
  conv => rhs; rw [← List.take_append_drop k l]
  rw [List.map_append, List.sum_append]
  omega
/-- the cells of an element, by name. -/
theorem RowAt.at {w : World} {B sz n : Nat} {A : Option Addr} {Q : Nat → List Value → Prop} (h : RowAt w B A sz n Q) {i : Nat} (hi : i < n) : ∃ b o cs, A = some ⟨b, o, none⟩ ∧ b < B ∧ (∀ j, j < sz → w.cell? ⟨b, o + i * sz + j, none⟩ = cs[j]?) ∧ Q i cs := by
  obtain ⟨b, o, cs, h1, h2, _, h4, h5⟩ := h i hi
  exact ⟨b, o, cs, h1, h2, h4, h5⟩
theorem BdsAt.cells {w : World} {B : Nat} {p : Slc} {xs : List Bd} (h : BdsAt w B p xs) {i : Nat} (hi : i < xs.length) : ∃ b o q r, p.1 = some ⟨b, o, none⟩ ∧ b < B ∧ w.cell? ⟨b, o + i * 3, none⟩ = some (.slice q.1 (xs.getD i default).locals.length q.2) ∧ w.cell? ⟨b, o + i * 3 + 1, none⟩ = some (.int .i64 (xs.getD i default).stack) ∧ w.cell? ⟨b, o + i * 3 + 2, none⟩ = some (.slice r.1 (xs.getD i default).nodes.length r.2) ∧ VlsAt w B q (xs.getD i default).locals ∧ NdsAt w B r (xs.getD i default).nodes := by
  obtain ⟨b, o, cs, h1, h2, h3, q, r, rfl, h4, h5⟩ := h.1.at hi
  exact ⟨b, o, q, r, h1, h2, h3 0 (by omega), h3 1 (by omega), h3 2 (by omega), h4, h5⟩
theorem NdsAt.cells {w : World} {B : Nat} {p : Slc} {xs : List Nd} (h : NdsAt w B p xs) {i : Nat} (hi : i < xs.length) : ∃ b o q, p.1 = some ⟨b, o, none⟩ ∧ b < B ∧ w.cell? ⟨b, o + i * 5, none⟩ = some (.slice q.1 (xs.getD i default).code.length q.2) ∧ w.cell? ⟨b, o + i * 5 + 1, none⟩ = some (.int .i64 (xs.getD i default).kind) ∧ w.cell? ⟨b, o + i * 5 + 2, none⟩ = some (.int .i64 (xs.getD i default).arg) ∧ w.cell? ⟨b, o + i * 5 + 3, none⟩ = some (.int .i64 (xs.getD i default).next) ∧ w.cell? ⟨b, o + i * 5 + 4, none⟩ = some (.int .i64 (xs.getD i default).alt) ∧ InsAt w B q (xs.getD i default).code := by
  obtain ⟨b, o, cs, h1, h2, h3, q, rfl, h4⟩ := h.1.at hi
  exact ⟨b, o, q, h1, h2, h3 0 (by omega), h3 1 (by omega), h3 2 (by omega), h3 3 (by omega), h3 4 (by omega), h4⟩
theorem VlsAt.cells {w : World} {B : Nat} {p : Slc} {xs : List Vl} (h : VlsAt w B p xs) {i : Nat} (hi : i < xs.length) : ∃ b o, p.1 = some ⟨b, o, none⟩ ∧ b < B ∧ w.cell? ⟨b, o + i * 2, none⟩ = some (.int .u8 (xs.getD i default).t) ∧ w.cell? ⟨b, o + i * 2 + 1, none⟩ = some (.int .u64 (xs.getD i default).b) := by
  obtain ⟨b, o, cs, h1, h2, h3, rfl⟩ := h.1.at hi
  exact ⟨b, o, h1, h2, h3 0 (by omega), h3 1 (by omega)⟩
theorem InsAt.cells {w : World} {B : Nat} {p : Slc} {xs : List Ins} (h : InsAt w B p xs) {i : Nat} (hi : i < xs.length) : ∃ b o, p.1 = some ⟨b, o, none⟩ ∧ b < B ∧ w.cell? ⟨b, o + i * 4, none⟩ = some (.int .u8 (xs.getD i default).op) ∧ w.cell? ⟨b, o + i * 4 + 1, none⟩ = some (.int .i64 (xs.getD i default).arg) ∧ w.cell? ⟨b, o + i * 4 + 2, none⟩ = some (.int .u8 (xs.getD i default).l.t) ∧ w.cell? ⟨b, o + i * 4 + 3, none⟩ = some (.int .u64 (xs.getD i default).l.b) := by
  obtain ⟨b, o, cs, h1, h2, h3, rfl⟩ := h.1.at hi
  exact ⟨b, o, h1, h2, h3 0 (by omega), h3 1 (by omega), h3 2 (by omega), h3 3 (by omega)⟩
set_option maxRecDepth 100000 in
set_option maxHeartbeats 4000000 in
theorem weight_any (c : Cd) (hw : c.wt ≤ 4000000) (v : Value) (B : Nat) (w : World) (hc : CdAt w B v c) (hB : B ≤ w.heap.size) :
    Calls Try.prog 28 #[v] w fun e w' => e = .returned (.int .i64 (c.wt : Nat)) ∧ Below w.heap.size w w' := by
  obtain ⟨⟨P, pc⟩, ⟨X, xc⟩, rfl, hs, hx⟩ := hc
  have HX := Lib.hid hx
  have HS0 : Hid (c.wt = c.shared.length + psum Bd.wt c.bodies c.bodies.length) := Lib.hid (by rw [psum_full]; rfl)
  have hsh : c.shared.length ≤ 4000000 := by unfold Cd.wt at hw; omega
  have hbd : ∀ k, c.shared.length + psum Bd.wt c.bodies k ≤ 4000000 := fun k => by have := psum_mono Bd.wt c.bodies k; unfold Cd.wt at hw; omega
  have HBD := Lib.hid hbd
  have HSU := Lib.hid (fun k h => psum_succ Bd.wt c.bodies k h)
  have hlen : c.bodies.length ≤ 4000000 := by
    have h1 : c.bodies.length ≤ (c.bodies.map Bd.wt).sum := by
      generalize c.bodies = l
      induction l with
      | nil => simp
      | cons a l ih => simp only [List.map_cons, List.sum_cons, List.length_cons]; unfold Bd.wt; unfold Bd.wt at ih; omega
    unfold Cd.wt at hw; omega
  clear hs hx hbd hw
  generalize c.wt = total at *
  obtain ⟨shared, mutexes, bodies⟩ := c
  dsimp only at *
  generalize shared.length = q0 at *
  go_enter Try.func28, Try.ntmps28
  go_wp2_with fail
  have hb0 := below_alloc w (.cells #[.slice P q0 pc, .int .i64 mutexes, .slice X bodies.length xc] 25)
  have hx0 := heap_alloc_new w (.cells #[.slice P q0 pc, .int .i64 mutexes, .slice X bodies.length xc] 25)
  generalize w.alloc (.cells #[.slice P q0 pc, .int .i64 mutexes, .slice X bodies.length xc] 25) = w0 at *
  have HB0 := Lib.hid hb0
  have c2 : w0.cell? ⟨w.heap.size, 2, none⟩ = some (.slice X bodies.length xc) := by rw [cell_blk (T := 25) hx0]; rfl
  have HX0 := Lib.hid (HX.out.below (hb0.mono hB))
  clear hb0 hx0 HX
  go_loopw [3, 4] (fun nv kv wr => ∃ k : Nat, k ≤ bodies.length ∧ kv = .int .i64 k ∧ nv = .int .i64 (q0 + psum Bd.wt bodies k : Nat) ∧ wr = w0) (fun _ kv _ => bodies.length - (intOf kv).toNat)
  case atStart => exact ⟨0, by omega, rfl, by rw [psum_zero]; rfl, rfl⟩
  case round =>
    obtain ⟨k, hk, rfl, rfl, rfl⟩ := hrel
    by_cases hlt : k < bodies.length
    · obtain ⟨b, o, ⟨L, lc⟩, ⟨Nn, nc⟩, hXe, _, y0, y1, y2, _, hN⟩ := HX0.out.cells hlt
      dsimp only at hXe y0 y1 y2
      subst hXe
      have HN := Lib.hid hN
      have hq := HBD.out (k + 1)
      rw [HSU.out k hlt] at hq
      have HQ : Hid (q0 + psum Bd.wt bodies (k + 1) = q0 + psum Bd.wt bodies k + 1 + (bodies.getD k default).locals.length + psum Nd.wt (bodies.getD k default).nodes (bodies.getD k default).nodes.length) := Lib.hid (by
        rw [HSU.out k hlt, psum_full]; unfold Bd.wt; omega)
      have hbnd : ∀ j, q0 + psum Bd.wt bodies k + 1 + (bodies.getD k default).locals.length + psum Nd.wt (bodies.getD k default).nodes j ≤ 4000000 := fun j => by
        have h1 := psum_mono Nd.wt (bodies.getD k default).nodes j
        have h2 : (bodies.getD k default).wt = 1 + (bodies.getD k default).locals.length + ((bodies.getD k default).nodes.map Nd.wt).sum := rfl
        omega
      have HBN := Lib.hid hbnd
      have HSN := Lib.hid (fun j h => psum_succ Nd.wt (bodies.getD k default).nodes j h)
      have hl0 := hbnd 0
      have hnl : (bodies.getD k default).nodes.length ≤ 4000000 := by
        have h1 : ∀ l : List Nd, l.length ≤ (l.map Nd.wt).sum := fun l => by
          induction l with
          | nil => simp
          | cons a l ih => simp only [List.map_cons, List.sum_cons, List.length_cons]; unfold Nd.wt; unfold Nd.wt at ih; omega
        have h2 := h1 (bodies.getD k default).nodes
        have h3 := hbnd (bodies.getD k default).nodes.length
        rw [psum_full] at h3
        omega
      rw [psum_zero] at hl0
      clear hN hq hbnd
      generalize q0 + psum Bd.wt bodies k = n0 at *
      generalize (bodies.getD k default).locals.length = ll at *
      generalize (bodies.getD k default).nodes = ns at *
      go_wp2_with fail
      go_loopw [3, 5] (fun nv jv wk => ∃ j : Nat, j ≤ ns.length ∧ jv = .int .i64 j ∧ nv = .int .i64 (n0 + 1 + ll + psum Nd.wt ns j : Nat) ∧ wk = wr) (fun _ jv _ => ns.length - (intOf jv).toNat)
      case atStart => exact ⟨0, by omega, rfl, by rw [psum_zero]; go_num, rfl⟩
      case round =>
        obtain ⟨j, hj, rfl, rfl, rfl⟩ := hrel
        by_cases hlt2 : j < ns.length
        · obtain ⟨b2, o2, ⟨C, cc⟩, hNe, _, z0, _, _, _, _, _⟩ := HN.out.cells hlt2
          dsimp only at hNe z0
          subst hNe
          have hq := HBN.out (j + 1)
          have HQ2 := Lib.hid (HSN.out j hlt2)
          have HQ3 : Hid (Nd.wt (ns.getD j default) = 1 + (ns.getD j default).code.length) := Lib.hid rfl
          rw [HQ2.out, HQ3.out] at hq
          rw [HQ3.out] at HQ2
          generalize (ns.getD j default).code.length = cl at *
          generalize psum Nd.wt ns j = s0 at *
          go_wp2_with fail
          go_roundw
          case rel => exact ⟨j + 1, by omega, by go_num, by rw [HQ2.out]; congr 1; omega, by first | rfl | trivial⟩
          case measure => simp [intOf]; omega
        · obtain rfl : j = ns.length := by omega
          go_wp2_with fail
          go_roundw
          case rel => exact ⟨k + 1, by omega, by go_num, by rw [HQ.out], by first | rfl | trivial⟩
          case measure => simp [intOf]; omega
    · obtain rfl : k = bodies.length := by omega
      go_wp2_with fail
      go_ret
      exact ⟨by rw [HS0.out]; rfl, HB0.out⟩
end Go.Proofs.Ytbmpjphemjponaa
