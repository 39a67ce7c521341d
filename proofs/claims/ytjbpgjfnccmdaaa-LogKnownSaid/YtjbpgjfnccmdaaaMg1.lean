/- several texts in one: slices.Grow of no bytes., slices.Concat of two rows of bytes., disk.write: whatever its closure does., disks: what a file's lookup gives; behind a write., disks under way: the map's writes at the operations., disk.Sync., the closures of disk.Remove, Rename, Cut., the closures of disk.Append, Cut, Rename, Remove., the closure of disk.Cut. -/
import Derived.Test.YtjbpgjfnccmdaaaMe
import Derived.Lib.AppendZerosOnto
import Derived.Lib.SliceRun
import Derived.Test.YtjbpgjfnccmdaaaBy
import Derived.Test.YtjbpgjfnccmdaaaMg2
section
set_option linter.unusedSimpArgs false
set_option linter.unusedVariables false
namespace Go.Proofs.Ytjbpgjfnccmdaaa
open Go.RowKit

set_option maxRecDepth 100000 in
set_option maxHeartbeats 1000000 in
theorem grow_nil (n : Nat) (hn : n ≤ 1000000000) (w : World) : Calls Try.prog 78 #[.slice none 0 0, .int .i64 n] w fun e w' => ∃ v, e = .returned v ∧ w'.ownsRow w.heap.size 5 1 v 0 [] ∧ Below w.heap.size w w' := by
  rcases Nat.eq_zero_or_pos n with h0 | h0
  · subst h0
    go_enter Try.func78, Try.ntmps78
    go_wp2_with fail
    go_ret
    exact ⟨_, rfl, World.ownsRow_nil _ _ _ _, Below.refl _ _⟩
  · obtain ⟨ti, hi, hz0, hz1, hz2⟩ := info_parts E5.hi
    have hr := Lib.run_append_nil_zeros (P := Try.prog) w 31 3 31 5 ti (.int .u8 0) .i64 .i64 Try.underlying31 Try.underlying3 hi hz0 n h0 (by omega) (by omega) (by rw [hz2]; omega)
    have hg := Go.grownCap_ge w n 0 5
    have hm := Go.grownCap_le_maxLen w n 0 5
    have Hr := Lib.hid hr; have Hg := Lib.hid hg; have Hm := Lib.hid hm
    clear hi hz0 hz1 hz2 hr hg hm
    go_enter Try.func78, Try.ntmps78
    go_wp2_with (at_builtin; refine Lib.wpList_append_run w rfl (.tmp 20) (.tmp 21) _ _ rfl _ _ rfl rfl _ _ Hr.out ?_)
    go_ret
    refine ⟨_, rfl, ⟨rfl, .inr ⟨w.heap.size, grownCap w n 0 5, _, rfl, Nat.le_refl _, heap_alloc_new w _, Nat.zero_le _, Hm.out (by have : maxLen = 9223372036854775807 := rfl; omega), ?_, by simp⟩⟩, ((Below.refl _ _).alloc (Nat.le_refl _) _).drew⟩
    have := Hg.out
    simp [Builtin.zeroCells]
    omega
end Go.Proofs.Ytjbpgjfnccmdaaa
end

section
set_option linter.unusedSimpArgs false
set_option linter.unusedVariables false
namespace Go.Proofs.Ytjbpgjfnccmdaaa
open Go.RowKit

def two {α : Type} (a b : α) (k : Nat) : α := if k = 0 then a else b
set_option maxRecDepth 100000 in
set_option maxHeartbeats 2000000 in
theorem concat_at (g : Nat) (a b : List UInt8) (n m : Nat) (hn : n = a.length) (hm : m = b.length) (ha : n ≤ 100000000) (hb : m ≤ 100000000) (A C : Option Addr) (ca cb : Nat) (w : World) (h0 : w.cell? ⟨g, 0, none⟩ = some (.slice A n ca)) (h1 : w.cell? ⟨g, 1, none⟩ = some (.slice C m cb)) (hg : g < w.heap.size) (hA : Bs w w.heap.size A a) (hC : Bs w w.heap.size C b) (hA0 : A = none → a = []) (hC0 : C = none → b = []) :
    Calls Try.prog 56 #[.slice (some ⟨g, 0, none⟩) 2 2] w fun e w' => ∃ v, e = .returned v ∧ w'.ownsRow w.heap.size 5 1 v (n + m) (bcells (a ++ b)) ∧ Below w.heap.size w w' := by
  have HA := Lib.hid hA; have HC := Lib.hid hC; have Hn := Lib.hid hn; have Hm := Lib.hid hm; have HA0 := Lib.hid hA0; have HC0 := Lib.hid hC0
  have H0 := Lib.hid h0; have H1 := Lib.hid h1
  clear hA hC hn hm hA0 hC0 h0 h1
  go_enter Try.func56, Try.ntmps56
  go_wp2_with fail
  generalize hs : n + m = s at *
  have HS := Lib.hid hs
  clear hs
  go_loopw [3, 5, 11] (fun sv _ iv wr => w = wr ∧ ((sv = .int .i64 0 ∧ iv = .int .i64 0) ∨ (sv = .int .i64 n ∧ iv = .int .i64 1) ∨ (sv = .int .i64 s ∧ iv = .int .i64 2))) (fun _ _ iv _ => 2 - (intOf iv).toNat)
  case atStart => exact ⟨rfl, .inl ⟨rfl, rfl⟩⟩
  case round =>
    obtain ⟨rfl, ⟨rfl, rfl⟩ | ⟨rfl, rfl⟩ | ⟨rfl, rfl⟩⟩ := hrel
    · have h0 := H0.out
      go_wp2_with fail
      go_roundw
      case rel => exact ⟨trivial, .inr (.inl ⟨by go_num, by go_num⟩)⟩
      case measure => simp [intOf]
    · have h1 := H1.out
      go_wp2_with fail
      go_roundw
      case rel => exact ⟨trivial, .inr (.inr ⟨by rw [← HS.out]; go_num, by go_num⟩)⟩
      case measure => simp [intOf]
    · have HG := Lib.hid (grow_nil s (by have := HS.out; omega) w)
      go_wp2_with fail
      refine HG.out.mono ?_
      rintro e w1 ⟨v, rfl, ho, hbl⟩
      have HO := Lib.hid ho; have HB := Lib.hid hbl
      clear ho hbl
      go_wp2_with fail
      go_loopw [6, 8, 27] (fun v _ iv wk => Below w.heap.size w wk ∧ ((iv = .int .i64 0 ∧ wk.ownsRow w.heap.size 5 1 v 0 []) ∨ (iv = .int .i64 1 ∧ wk.ownsRow w.heap.size 5 1 v n (bcells a)) ∨ (iv = .int .i64 2 ∧ wk.ownsRow w.heap.size 5 1 v s (bcells (a ++ b))))) (fun _ _ iv _ => 2 - (intOf iv).toNat)
      case atStart => exact ⟨HB.out, .inl ⟨rfl, HO.out⟩⟩
      case round =>
        obtain ⟨hb2, ⟨rfl, ho⟩ | ⟨rfl, ho⟩ | ⟨rfl, ho⟩⟩ := hrel
        · have HB2 := Lib.hid hb2; have HO2 := Lib.hid ho
          have h0 := (HB2.out.cell (p := ⟨g, 0, none⟩) hg).trans H0.out
          clear hb2 ho
          go_wp2_with (at_builtin; refine wpList_append_src E5 rfl (.tmp 31) (.tmp 32) rfl w.heap.size _ 0 [] rfl HO2.out w.heap.size A (bcells a) n ca rfl (by rw [bcells_length, Hn.out]) ((HA.out.below HB2.out).rd) (fun h => by rw [Hn.out, HA0.out h]; rfl) (bcells_one a) (by omega) (by omega) w (Nat.le_refl _) HB2.out ?_; intro v' w' h2 h3 h4 h5; clear h4 h5; have H2 := Lib.hid h2; have H3 := Lib.hid h3; clear h2 h3)
          go_roundw
          case rel => exact ⟨H3.out, .inr (.inl ⟨by go_num, by simpa using H2.out⟩)⟩
          case measure => simp [intOf]
        · have HB2 := Lib.hid hb2; have HO2 := Lib.hid ho
          have h1 := (HB2.out.cell (p := ⟨g, 1, none⟩) hg).trans H1.out
          clear hb2 ho
          go_wp2_with (at_builtin; refine wpList_append_src E5 rfl (.tmp 31) (.tmp 32) rfl w.heap.size _ n (bcells a) rfl HO2.out w.heap.size C (bcells b) m cb rfl (by rw [bcells_length, Hm.out]) ((HC.out.below HB2.out).rd) (fun h => by rw [Hm.out, HC0.out h]; rfl) (bcells_one b) (by omega) (by omega) w (Nat.le_refl _) HB2.out ?_; intro v' w' h2 h3 h4 h5; clear h4 h5; have H2 := Lib.hid h2; have H3 := Lib.hid h3; clear h2 h3)
          go_roundw
          case rel => exact ⟨H3.out, .inr (.inr ⟨by go_num, by rw [← HS.out, bcells_app]; exact H2.out⟩)⟩
          case measure => simp [intOf]
        · have HB2 := Lib.hid hb2; have HO2 := Lib.hid ho
          clear hb2 ho
          go_wp2_with fail
          go_ret
          exact ⟨_, rfl, by rw [HS.out]; exact HO2.out, HB2.out⟩
end Go.Proofs.Ytjbpgjfnccmdaaa
end

section
set_option linter.unusedSimpArgs false
set_option linter.unusedVariables false
namespace Go.Proofs.Ytjbpgjfnccmdaaa
open Go.RowKit

def dcells (n m : Nat) (left : Int) (writes : Nat) : Obj := .cells #[.int .i64 n, .map (some m), .int .i64 left, .int .i64 writes] 44
/-- all but one block stays. -/
structure Ow (w w' : World) (p : Nat) : Prop where
  os : w'.os = w.os
  tape : w'.tape = w.tape
  output : w'.output = w.output
  size : w.heap.size ≤ w'.heap.size
  block : ∀ k, k < w.heap.size → k ≠ p → w'.heap[k]? = w.heap[k]?
theorem Ow.refl (w : World) (p : Nat) : Ow w w p := ⟨rfl, rfl, rfl, Nat.le_refl _, fun _ _ _ => rfl⟩
theorem Ow.set {w w' : World} {p : Nat} (h : Ow w w' p) (i : Nat) (v : Value) : Ow w (w'.setCell ⟨p, i, none⟩ v) p :=
  ⟨h.os, h.tape, h.output, by rw [World.size_setCell]; exact h.size, fun k hk hne => by
    have e : (w'.setCell ⟨p, i, none⟩ v).heap[k]? = w'.heap[k]? := Below.heap_setCell _ _ _ _ hne
    exact e.trans (h.block k hk hne)⟩
set_option maxRecDepth 100000 in
set_option maxHeartbeats 2000000 in
theorem write_off {w : World} {p m : Nat} {d : Dk} (h : DiskAt w p m d) (h0 : d.left = 0) (f : Value) : Calls Try.prog 54 #[.pointer (some ⟨p, 0, none⟩), f] w fun e w' => e = .returned (.int .i64 13) ∧ w' = w := by
  have c2 := cell_blk h.own 2
  simp only [List.getElem?_toArray, List.getElem?_cons_succ, List.getElem?_cons_zero] at c2
  rw [h0] at c2
  clear h h0
  go_enter Try.func54, Try.ntmps54
  go_wp2_with fail
  go_ret
  exact ⟨rfl, rfl⟩
set_option maxRecDepth 100000 in
set_option maxHeartbeats 2000000 in
theorem write_on {w : World} {p m : Nat} {d : Dk} (h : DiskAt w p m d) (h0 : d.left ≠ 0) (hw : d.writes < 1000000000000) (F : FuncId) (hE : ∀ args w, (callFunc F args).run Try.prog w = .ok (.enter F args) w) (caps : Array Value) (Q : World → Prop)
    (hdo : ∀ w1, w1.heap[p]? = some (dcells d.size m (if 0 < d.left then d.left - 1 else d.left) (d.writes + 1)) → Ow w w1 p → Calls Try.prog F caps w1 fun e w2 => e = .returned (.tuple #[]) ∧ Q w2) :
    Calls Try.prog 54 #[.pointer (some ⟨p, 0, none⟩), .func (.func F) #[] caps] w fun e w' => e = .returned (.int .i64 0) ∧ Q w' := by
  have ho := h.own
  have hl := h.ok.left
  generalize d.left = lf at *
  generalize d.writes = wt at *
  generalize d.size = n at *
  have hp := h.lt
  clear h
  have HO := Lib.hid ho
  have HD := Lib.hid hdo
  have c2 := cell_blk ho 2
  have c3 := cell_blk ho 3
  simp only [List.getElem?_toArray, List.getElem?_cons_succ, List.getElem?_cons_zero] at c2 c3
  have fz := fun i => free_blk ho i
  clear ho hdo
  rcases Int.lt_trichotomy 0 lf with h1 | h1 | h1
  · rw [if_pos h1] at HD
    go_enter Try.func54, Try.ntmps54
    go_wp2_with fail
    refine (HD.out _ (set_blk (set_blk HO.out 2 _) 3 _) (((Ow.refl w p).set 2 _).set 3 _)).mono ?_
    rintro e w1 ⟨rfl, hq⟩
    have HQ := Lib.hid hq
    clear hq
    go_wp2_with fail
    go_ret
    exact ⟨rfl, HQ.out⟩
  · exact absurd h1.symm h0
  · rw [if_neg (by omega)] at HD
    have h2 : ¬ 0 < lf := by omega
    go_enter Try.func54, Try.ntmps54
    go_wp2_with fail
    refine (HD.out _ (set_blk HO.out 3 _) ((Ow.refl w p).set 3 _)).mono ?_
    rintro e w1 ⟨rfl, hq⟩
    have HQ := Lib.hid hq
    clear hq
    go_wp2_with fail
    go_ret
    exact ⟨rfl, HQ.out⟩
end Go.Proofs.Ytjbpgjfnccmdaaa
end

section
set_option linter.unusedSimpArgs false
set_option linter.unusedVariables false
namespace Go.Proofs.Ytjbpgjfnccmdaaa
open Go.RowKit

abbrev UM := 42
/-- the file's value that a lookup gives. -/
def zfile : Value := .agg #[.slice none 0 0, .int .i64 0, .bool false]
theorem keyStr (l : Nm) (h : l.length ≤ 9223372036854775807) : keyOf Try.prog 9 (.string (str l)) = some (.string l) := by
  simp only [keyOf, Try.underlying9, mapKey]
  have h2 : (str l).size ≤ maxLen := by
    have : maxLen = 9223372036854775807 := rfl
    rw [str_len]; omega
  rw [if_pos h2]
  simp [str]
theorem Alike.look {w : World} {vs : Nl Value} {fs : Nl Fl} (h : Alike (FileV w) vs fs) (k : Nm) : (nget vs k).isSome = (nget fs k).isSome ∧ FileV w ((nget vs k).getD zfile) ((nget fs k).getD fl0) := by
  rcases h.get k with ⟨h1, h2⟩ | ⟨a, b, h1, h2, h3⟩
  · rw [h1, h2]
    exact ⟨rfl, none, 0, rfl, Bs.nil _ _ _, Nat.le_refl _, Nat.le_refl _, by simp [fl0], fun _ => rfl⟩
  · rw [h1, h2]
    exact ⟨rfl, h3⟩
/-- a world in which a disk's map lies as it did. -/
theorem look_file {w : World} {p m : Nat} {d : Dk} (h : DiskAt w p m d) (k : Nm) (hk : k.length ≤ 9223372036854775807) : ∃ A cap, FileV w (.agg #[.slice A (d.file k).b.length cap, .int .i64 (d.file k).safe, .bool (d.file k).kept]) (d.file k) ∧
    (∀ W, W.heap[m]? = w.heap[m]? → (Instr.lookup UM (.map (some m)) (.string (str k)) true).run Try.prog W = .ok (.tuple #[.agg #[.slice A (d.file k).b.length cap, .int .i64 (d.file k).safe, .bool (d.file k).kept], .bool (d.has k)]) W) ∧
    (∀ W, W.heap[m]? = w.heap[m]? → (Instr.lookup UM (.map (some m)) (.string (str k)) false).run Try.prog W = .ok (.agg #[.slice A (d.file k).b.length cap, .int .i64 (d.file k).safe, .bool (d.file k).kept]) W) ∧
    Bs w w.heap.size A (d.file k).b ∧ (A = none → (d.file k).b = []) ∧ (d.file k).b.length ≤ cap := by
  obtain ⟨vs, h1, h2⟩ := h.files
  obtain ⟨h3, h4⟩ := h2.look k
  obtain ⟨A, cap, h5, h6, h7, h8, h9, h10⟩ := h4
  refine ⟨A, cap, ⟨A, cap, rfl, h6, h7, h8, h9, h10⟩, fun W hW => ?_, fun W hW => ?_, h6, h10, h7⟩
  · have := (h1.at hW).look_ok (Maps.string_keyed Try.underlying9) Try.underlying42 (Try.zeroValue79 W) (keyStr k hk)
    rw [this]
    change (Result.ok (Value.tuple #[(nget vs k).getD zfile, Value.bool (nget vs k).isSome]) W) = _
    rw [h5, h3]
    rfl
  · have := (h1.at hW).look (Maps.string_keyed Try.underlying9) Try.underlying42 (Try.zeroValue79 W) (keyStr k hk)
    rw [this]
    change (Result.ok ((nget vs k).getD zfile) W) = _
    rw [h5]
    rfl
end Go.Proofs.Ytjbpgjfnccmdaaa
end

section
set_option linter.unusedSimpArgs false
set_option linter.unusedVariables false
namespace Go.Proofs.Ytjbpgjfnccmdaaa
open Go.RowKit

/-- a disk's cells, and its files. -/
structure Raw (w : World) (p m n : Nat) (left : Int) (writes : Nat) (fs : Nl Fl) : Prop where
  own : w.heap[p]? = some (dcells n m left writes)
  files : ∃ vs, MapN Try.prog 9 w m vs ∧ Alike (FileV w) vs fs
section
variable {w w' : World} {p m n : Nat} {left : Int} {writes : Nat} {fs : Nl Fl}
theorem DiskAt.raw {d : Dk} (h : DiskAt w p m d) : Raw w p m d.size d.left d.writes d.fs := ⟨h.own, h.files⟩
theorem Raw.disk (h : Raw w p m n left writes fs) (hok : (Dk.mk n fs left writes).Ok) : DiskAt w p m ⟨n, fs, left, writes⟩ := ⟨h.own, hok, h.files⟩
theorem Raw.lt (h : Raw w p m n left writes fs) : p < w.heap.size := lt_blk h.own
theorem Raw.ltm (h : Raw w p m n left writes fs) : m < w.heap.size := by
  obtain ⟨vs, h1, _⟩ := h.files
  exact h1.lt
theorem Raw.ne (h : Raw w p m n left writes fs) : m ≠ p := by
  obtain ⟨vs, ⟨es, c, h1, _⟩, _⟩ := h.files
  rintro rfl
  rw [h.own] at h1
  cases h1
theorem Raw.no_map (h : Raw w p m n left writes fs) {b i : Nat} {v : Value} (hc : w.cell? ⟨b, i, none⟩ = some v) : b ≠ m := by
  rintro rfl
  obtain ⟨vs, ⟨es, c, h1, _⟩, _⟩ := h.files
  simp [World.cell?, h1] at hc
theorem Raw.bs (h : Raw w p m n left writes fs) (hg : w.grownBy w' (some m)) {B : Nat} (hB : B ≤ w.heap.size) {A : Option Addr} {l : List UInt8} (hl : Bs w B A l) : Bs w' B A l := fun j hj => by
  obtain ⟨b, off, h1, h2, h3⟩ := hl j hj
  have h4 := h.no_map h3
  exact ⟨b, off, h1, h2, (World.cell?_of_block (hg.block b (by omega) (by simpa using h4))).trans h3⟩
theorem Raw.fileV (h : Raw w p m n left writes fs) (hg : w.grownBy w' (some m)) {v : Value} {f : Fl} (hv : FileV w v f) : FileV w' v f := by
  obtain ⟨A, cap, h1, h2, h3⟩ := hv
  exact ⟨A, cap, h1, (h.bs hg (Nat.le_refl _) h2).more hg.size, h3⟩
theorem FileV.below {v : Value} {f : Fl} (hv : FileV w v f) (hb : Below w.heap.size w w') : FileV w' v f := by
  obtain ⟨A, cap, h1, h2, h3⟩ := hv
  exact ⟨A, cap, h1, (h2.below hb).more hb.size, h3⟩
theorem Raw.below (h : Raw w p m n left writes fs) (hb : Below w.heap.size w w') : Raw w' p m n left writes fs := by
  obtain ⟨vs, h1, h2⟩ := h.files
  exact ⟨(hb.block p h.lt).trans h.own, vs, h1.at (hb.block m h.ltm), h2.mono fun v f hv => hv.below hb⟩
theorem Raw.lay (h : Raw w p m n left writes fs) (hn : fs.length ≤ 1000000) (k : Nm) (hk : k.length ≤ 9223372036854775807) (v : Value) (f : Fl) (hv : FileV w v f) :
    ∃ w', (Instr.mapUpdate UM (.map (some m)) (.string (str k)) v).run Try.prog w = .ok () w' ∧ Raw w' p m n left writes (nput fs k f) ∧ w.grownBy w' (some m) := by
  obtain ⟨vs, h1, h2⟩ := h.files
  obtain ⟨w', h3, h4, h5⟩ := h1.store (Maps.string_keyed Try.underlying9) Try.underlying42 (by rw [h2.length]; have : maxLen = 9223372036854775807 := rfl; omega) (keyStr k hk) (val := v)
  have hg := h5.grown
  exact ⟨w', h3, ⟨(hg.block p h.lt (by simpa using h.ne.symm)).trans h.own, _, h4, Alike.put (h2.mono fun v f hv => h.fileV hg hv) k (h.fileV hg hv)⟩, hg⟩
theorem Raw.drop (h : Raw w p m n left writes fs) (k : Nm) (hk : k.length ≤ 9223372036854775807) (ty : TypeId) :
    ∃ w', (Builtin.delete_ #[UM, 9] ty #[.map (some m), .string (str k)]).run Try.prog w = .ok (.tuple #[]) w' ∧ Raw w' p m n left writes (ndel fs k) ∧ w.grownBy w' (some m) := by
  obtain ⟨vs, h1, h2⟩ := h.files
  obtain ⟨w', h3, h4, h5⟩ := h1.drop (Maps.string_keyed Try.underlying9) Try.underlying42 (keyStr k hk) ty
  have hg := h5.grown
  exact ⟨w', h3, ⟨(hg.block p h.lt (by simpa using h.ne.symm)).trans h.own, _, h4, (h2.mono fun v f hv => h.fileV hg hv).del k⟩, hg⟩
theorem wpList_layD {ops : Array Oper} {rest : List Oper} {o : Oper} {a : Act} {Q : Exit → Act → World → Prop} (h : Raw w p m n left writes fs) (hn : fs.length ≤ 1000000) (k : Nm) (hk : k.length ≤ 9223372036854775807) (v : Value) (f : Fl) (hv : FileV w v f)
    (hg : o.guard = none) (mo x vo : Operand) (hop : o.op = Op.mapUpdate UM mo x vo) (hm : a.eval mo = .map (some m)) (hx : a.eval x = .string (str k)) (hvo : a.eval vo = v)
    (hK : ∀ w', Raw w' p m n left writes (nput fs k f) → w.grownBy w' (some m) → wpList Try.prog ops Q rest (a.put o.dst undef) w') :
    wpList Try.prog ops Q (o :: rest) a w := by
  refine wpList_plain hg fun K' hK' => ?_
  obtain ⟨w', hrun, r1, r2⟩ := h.lay hn k hk v f hv
  unfold Oper.wp
  simp [execOp, hop, hm, hx, hvo, hrun, Result.andThen]
  exact hK' _ _ (hK w' r1 r2)
theorem wpList_dropD {ops : Array Oper} {rest : List Oper} {o : Oper} {a : Act} {Q : Exit → Act → World → Prop} (h : Raw w p m n left writes fs) (k : Nm) (hk : k.length ≤ 9223372036854775807)
    (hg : o.guard = none) (mo x : Operand) (hop : o.op = Op.call { callee := Callee.builtin Builtin.delete, args := #[mo, x], argTypes := #[UM, 9] }) (hm : a.eval mo = .map (some m)) (hx : a.eval x = .string (str k))
    (hK : ∀ w', Raw w' p m n left writes (ndel fs k) → w.grownBy w' (some m) → wpList Try.prog ops Q rest (a.put o.dst (.tuple #[])) w') :
    wpList Try.prog ops Q (o :: rest) a w := by
  refine wpList_plain hg fun K' hK' => ?_
  obtain ⟨w', hrun, r1, r2⟩ := h.drop k hk o.type
  unfold Oper.wp
  simp [execOp, hop, resolve, invoke, builtin, hm, hx, hrun, Result.andThen]
  exact hK' _ _ (hK w' r1 r2)
end
theorem Ow.below {w w' w2 : World} {p : Nat} (h : Ow w w' p) (hb : Below w'.heap.size w' w2) : Ow w w2 p := ⟨hb.os.trans h.os, hb.tape.trans h.tape, hb.output.trans h.output, Nat.le_trans h.size hb.size, fun k hk hne => (hb.block k (Nat.lt_of_lt_of_le hk h.size)).trans (h.block k hk hne)⟩
theorem Ow.dw {w w' : World} {p : Nat} (h : Ow w w' p) (m : Nat) : Dw w w' p m := ⟨h.os, h.tape, h.output, h.size, fun k hk h3 _ => h.block k hk h3⟩
theorem Dw.then {w w1 w' : World} {p m : Nat} (h : Dw w w1 p m) (hg : w1.grownBy w' (some m)) : Dw w w' p m := h.trans ⟨hg.os, hg.tape, hg.output, hg.size, fun k hk _ h4 => hg.block k hk (by simpa using h4)⟩
/-- behind the counts. -/
theorem raw_of {w w1 : World} {p m : Nat} {d : Dk} (h : DiskAt w p m d) (ho : w1.heap[p]? = some (dcells d.size m (if 0 < d.left then d.left - 1 else d.left) (d.writes + 1))) (how : Ow w w1 p) : Raw w1 p m d.size (if 0 < d.left then d.left - 1 else d.left) (d.writes + 1) d.fs := by
  obtain ⟨vs, h1, h2⟩ := h.files
  exact ⟨ho, ⟨vs, h1.at (how.block m h.ltm h.ne), h2.mono fun v f hv => h.fileV (how.dw m) hv⟩⟩
end Go.Proofs.Ytjbpgjfnccmdaaa
end

section
set_option linter.unusedSimpArgs false
set_option linter.unusedVariables false
namespace Go.Proofs.Ytjbpgjfnccmdaaa
open Go.RowKit

def noU8 : Value → Bool
  | .int .u8 _ => false
  | _ => true
theorem cell_set {w : World} {q r : Addr} {v : Value} (h : r ≠ q) : (w.setCell q v).cell? r = w.cell? r := by apply World.cell?_setCell_other; exact h.symm
theorem cell_lt {w : World} {b i : Nat} {v : Value} (h : w.cell? ⟨b, i, none⟩ = some v) : b < w.heap.size := by
  rcases Nat.lt_or_ge b w.heap.size with h1 | h1
  · exact h1
  · have : w.heap[b]? = none := Array.getElem?_eq_none h1
    simp [World.cell?, this] at h
theorem Bs.set {w : World} {B g i : Nat} {c v : Value} (hc : w.cell? ⟨g, i, none⟩ = some c) (h8 : noU8 c = true) {A : Option Addr} {l : List UInt8} (h : Bs w B A l) : Bs (w.setCell ⟨g, i, none⟩ v) B A l := fun j hj => by
  obtain ⟨b, off, h1, h2, h3⟩ := h j hj
  refine ⟨b, off, h1, h2, ?_⟩
  have hne : (⟨b, off + j, none⟩ : Addr) ≠ ⟨g, i, none⟩ := by
    intro e
    rw [e, hc] at h3
    injection h3 with h3
    rw [h3] at h8
    cases h8
  rw [← h3]
  exact cell_set hne
theorem Raw.set {w : World} {p m n : Nat} {left : Int} {writes : Nat} {fs : Nl Fl} (h : Raw w p m n left writes fs) {g i : Nat} {c : Value} (hc : w.cell? ⟨g, i, none⟩ = some c) (h8 : noU8 c = true) (hp : g ≠ p) (v : Value) : Raw (w.setCell ⟨g, i, none⟩ v) p m n left writes fs := by
  obtain ⟨vs, h1, h2⟩ := h.files
  have hm := h.no_map hc
  refine ⟨(Below.heap_setCell _ _ _ _ (by simpa using hp.symm)).trans h.own, vs, h1.at (Below.heap_setCell _ _ _ _ (by simpa using hm.symm)), h2.mono fun v f hv => ?_⟩
  obtain ⟨A, cap, h3, h4, h5⟩ := hv
  exact ⟨A, cap, h3, by rw [World.size_setCell]; exact h4.set hc h8, h5⟩
theorem FileV.set {w : World} {g i : Nat} {c v u : Value} {f : Fl} (h : FileV w v f) (hc : w.cell? ⟨g, i, none⟩ = some c) (h8 : noU8 c = true) : FileV (w.setCell ⟨g, i, none⟩ u) v f := by
  obtain ⟨A, cap, h3, h4, h5⟩ := h
  exact ⟨A, cap, h3, by rw [World.size_setCell]; exact h4.set hc h8, h5⟩
/-- what a closure of a disk's leaves: files; but one new block all else stays. -/
def ClP (w : World) (g p m n : Nat) (left : Int) (writes : Nat) (fs : Nl Fl) (e : Ending) (w' : World) : Prop := e = .returned (.tuple #[]) ∧ Raw w' p m n left writes fs ∧ Dw w w' g m
theorem Dw.new {w w1 w' : World} {p m g : Nat} (h : Dw w w1 p m) (h2 : Dw w1 w' g m) (hg : w.heap.size ≤ g) : Dw w w' p m :=
  ⟨h2.os.trans h.os, h2.tape.trans h.tape, h2.output.trans h.output, Nat.le_trans h.size h2.size, fun k hk h3 h4 => (h2.block k (Nat.lt_of_lt_of_le hk h.size) (by omega) h4).trans (h.block k hk h3 h4)⟩
set_option maxRecDepth 100000 in
set_option maxHeartbeats 2000000 in
theorem sync1_at {w : World} {p m n : Nat} {left : Int} {writes : Nat} {fs : Nl Fl} (h : Raw w p m n left writes fs) (hn : fs.length ≤ 1000000) (k : Nm) (hk : k.length ≤ 9223372036854775807) (gf gd gn : Nat) (hgp : gf ≠ p) (A : Option Addr) (len cap : Nat) (f : Fl) (hl : len = f.b.length)
    (hf : w.heap[gf]? = some (.cells #[.slice A len cap, .int .i64 f.safe, .bool f.kept] 79 (0, 0))) (hv : FileV w (.agg #[.slice A len cap, .int .i64 len, .bool true]) ⟨f.b, len, true⟩)
    (hd : w.cell? ⟨gd, 0, none⟩ = some (.pointer (some ⟨p, 0, none⟩))) (hs : w.cell? ⟨gn, 0, none⟩ = some (.string (str k))) (hgd : gd ≠ gf) (hgn : gn ≠ gf) :
    Calls Try.prog 67 #[.pointer (some ⟨gf, 0, none⟩), .pointer (some ⟨gd, 0, none⟩), .pointer (some ⟨gn, 0, none⟩)] w (ClP w gf p m n left writes (nput fs k ⟨f.b, len, true⟩)) := by
  have c1 := cell_blk h.own 1
  simp only [List.getElem?_toArray, List.getElem?_cons_succ, List.getElem?_cons_zero] at c1
  have f0 := cell_blk hf 0
  have f1 := cell_blk hf 1
  have f2 := cell_blk hf 2
  simp only [List.getElem?_toArray, List.getElem?_cons_succ, List.getElem?_cons_zero] at f0 f1 f2
  have fz := fun i => free_blk hf i
  have HF := Lib.hid hf; have HV := Lib.hid hv; have HR := Lib.hid h; have HN := Lib.hid hn
  have f1' := f1; have f2' := f2
  clear hf hv h hn hl
  go_enter Try.func67, Try.ntmps67
  go_upto_region 1 with (fail)
  have HR2 := Lib.hid ((HR.out.set f1 rfl hgp (.int .i64 len)).set (show (w.setCell ⟨gf, 1, none⟩ (.int .i64 len)).cell? ⟨gf, 2, none⟩ = some (.bool f.kept) from (cell_set (by simp)).trans f2) rfl hgp (.bool true))
  have HV2 := Lib.hid ((HV.out.set (u := .int .i64 len) f1 rfl).set (u := .bool true) (show (w.setCell ⟨gf, 1, none⟩ (.int .i64 len)).cell? ⟨gf, 2, none⟩ = some (.bool f.kept) from (cell_set (by simp)).trans f2) rfl)
  have HF2 := Lib.hid (set_blk (set_blk HF.out 1 (.int .i64 len)) 2 (.bool true))
  have HW2 := Lib.hid (((Ow.refl w gf).set 1 (.int .i64 len)).set 2 (.bool true))
  have d2 : ((w.setCell ⟨gf, 1, none⟩ (.int .i64 len)).setCell ⟨gf, 2, none⟩ (.bool true)).cell? ⟨gd, 0, none⟩ = some (.pointer (some ⟨p, 0, none⟩)) := (cell_set (by simp [hgd])).trans ((cell_set (by simp [hgd])).trans hd)
  have n2 : ((w.setCell ⟨gf, 1, none⟩ (.int .i64 len)).setCell ⟨gf, 2, none⟩ (.bool true)).cell? ⟨gn, 0, none⟩ = some (.string (str k)) := (cell_set (by simp [hgn])).trans ((cell_set (by simp [hgn])).trans hs)
  generalize (w.setCell ⟨gf, 1, none⟩ (.int .i64 len)).setCell ⟨gf, 2, none⟩ (.bool true) = W2 at *
  clear f0 f1 f2 f1' f2' hd hs c1 fz
  have HC : Hid (∀ W, Below W2.heap.size W2 W → W.cell? ⟨gd, 0, none⟩ = some (.pointer (some ⟨p, 0, none⟩)) ∧ W.cell? ⟨gn, 0, none⟩ = some (.string (str k)) ∧ W.cell? ⟨p, 1, none⟩ = some (.map (some m)) ∧ W.cell? ⟨gf, 0, none⟩ = some (.slice A len cap) ∧ W.cell? ⟨gf, 1, none⟩ = some (.int .i64 len) ∧ W.cell? ⟨gf, 2, none⟩ = some (.bool true)) := Lib.hid fun W h => by
    have a1 := cell_blk ((h.block _ (lt_blk HF2.out)).trans HF2.out)
    have a2 := cell_blk ((h.block _ HR2.out.lt).trans HR2.out.own) 1
    exact ⟨(h.cell (p := ⟨gd, 0, none⟩) (cell_lt d2)).trans d2, (h.cell (p := ⟨gn, 0, none⟩) (cell_lt n2)).trans n2, a2, a1 0, a1 1, a1 2⟩
  clear d2 n2
  apply wp_region_relH (H := []) 6 [(Sum.inl _ : TT), (Sum.inl _ : TT), (Sum.inl _ : TT), (Sum.inl _ : TT), (Sum.inl _ : TT), (Sum.inl _ : TT)] (by kernel_rfl) (by kernel_rfl) (fun _ _ _ _ _ h => h) rfl
  simp only [List.take_succ_cons, List.take_zero, List.drop_succ_cons, List.drop_zero]
  iterate 6 (apply rel_isS; (intro W hW hf; obtain ⟨x1, x2, x3, x4, x5, x6⟩ := HC.out W hW; go_simp; first | exact ⟨StayS.refl _ _, rfl⟩ | rfl); simp only [Act.put, List.setIfInBounds_toArray, List.set_cons_succ, List.set_cons_zero])
  refine rel_endS ?_
  intro W hW hf
  try simp only [Act.put, List.setIfInBounds_toArray, List.set_cons_succ, List.set_cons_zero]
  have HR3 := Lib.hid (HR2.out.below hW)
  have HV3 := Lib.hid (HV2.out.below hW)
  go_wp2_with (at_mapUpdate; refine wpList_layD HR3.out HN.out k hk _ _ HV3.out rfl _ _ _ rfl rfl rfl rfl ?_; intro w5 h5 h6; have H5 := Lib.hid h5; have H6 := Lib.hid h6; clear h5 h6)
  go_end0
  exact ⟨rfl, H5.out, ((HW2.out.below hW).dw m).then H6.out⟩
end Go.Proofs.Ytjbpgjfnccmdaaa
end

section
set_option linter.unusedSimpArgs false
set_option linter.unusedVariables false
namespace Go.Proofs.Ytjbpgjfnccmdaaa
open Go.RowKit

set_option maxRecDepth 100000 in
set_option maxHeartbeats 2000000 in
theorem remove1_at {w : World} {p m n : Nat} {left : Int} {writes : Nat} {fs : Nl Fl} (h : Raw w p m n left writes fs) (k : Nm) (hk : k.length ≤ 9223372036854775807) (g gd gn : Nat)
    (hd : w.cell? ⟨gd, 0, none⟩ = some (.pointer (some ⟨p, 0, none⟩))) (hs : w.cell? ⟨gn, 0, none⟩ = some (.string (str k))) :
    Calls Try.prog 73 #[.pointer (some ⟨gd, 0, none⟩), .pointer (some ⟨gn, 0, none⟩)] w (ClP w g p m n left writes (ndel fs k)) := by
  have HR2 := Lib.hid h
  have HC : Hid (∀ W, Below w.heap.size w W → W.cell? ⟨gd, 0, none⟩ = some (.pointer (some ⟨p, 0, none⟩)) ∧ W.cell? ⟨gn, 0, none⟩ = some (.string (str k)) ∧ W.cell? ⟨p, 1, none⟩ = some (.map (some m))) := Lib.hid fun W h => by
    have a2 := cell_blk ((h.block _ HR2.out.lt).trans HR2.out.own) 1
    exact ⟨(h.cell (p := ⟨gd, 0, none⟩) (cell_lt hd)).trans hd, (h.cell (p := ⟨gn, 0, none⟩) (cell_lt hs)).trans hs, a2⟩
  clear h hd hs
  go_enter Try.func73, Try.ntmps73
  go_upto_region 0 with (fail)
  apply wp_region_relH (H := []) 5 [(Sum.inl _ : TT), (Sum.inl _ : TT), (Sum.inl _ : TT), (Sum.inl _ : TT), (Sum.inl _ : TT)] (by kernel_rfl) (by kernel_rfl) (fun _ _ _ _ _ h => h) rfl
  simp only [List.take_succ_cons, List.take_zero, List.drop_succ_cons, List.drop_zero]
  iterate 5 (apply rel_isS; (intro W hW hf; obtain ⟨x1, x2, x3⟩ := HC.out W hW; go_simp; first | exact ⟨StayS.refl _ _, rfl⟩ | rfl); simp only [Act.put, List.setIfInBounds_toArray, List.set_cons_succ, List.set_cons_zero])
  refine rel_endS ?_
  intro W hW hf
  try simp only [Act.put, List.setIfInBounds_toArray, List.set_cons_succ, List.set_cons_zero]
  have HR3 := Lib.hid (HR2.out.below hW)
  obtain ⟨w5, hrun, h5, h6⟩ := HR3.out.drop k hk 0
  have H5 := Lib.hid h5; have H6 := Lib.hid h6
  clear h5 h6
  go_wp2_with fail
  go_end0
  exact ⟨rfl, H5.out, (Dw.of_below hW).then H6.out⟩
set_option maxRecDepth 100000 in
set_option maxHeartbeats 2000000 in
theorem rename1_at {w : World} {p m n : Nat} {left : Int} {writes : Nat} {fs : Nl Fl} (h : Raw w p m n left writes fs) (hn : fs.length ≤ 1000000) (k k' : Nm) (hk : k.length ≤ 9223372036854775807) (hk' : k'.length ≤ 9223372036854775807) (gf gd gn gt : Nat) (hgp : gf ≠ p) (A : Option Addr) (len cap : Nat) (f : Fl)
    (hf : w.heap[gf]? = some (.cells #[.slice A len cap, .int .i64 f.safe, .bool f.kept] 79 (0, 0))) (hv : FileV w (.agg #[.slice A len cap, .int .i64 f.safe, .bool true]) ⟨f.b, f.safe, true⟩)
    (hd : w.cell? ⟨gd, 0, none⟩ = some (.pointer (some ⟨p, 0, none⟩))) (hs : w.cell? ⟨gn, 0, none⟩ = some (.string (str k))) (ht : w.cell? ⟨gt, 0, none⟩ = some (.string (str k'))) (hgd : gd ≠ gf) (hgt : gt ≠ gf) :
    Calls Try.prog 71 #[.pointer (some ⟨gd, 0, none⟩), .pointer (some ⟨gn, 0, none⟩), .pointer (some ⟨gf, 0, none⟩), .pointer (some ⟨gt, 0, none⟩)] w (ClP w gf p m n left writes (nput (ndel fs k) k' ⟨f.b, f.safe, true⟩)) := by
  have HR2 := Lib.hid h; have HF := Lib.hid hf; have HV := Lib.hid hv; have HN := Lib.hid hn; have HD := Lib.hid hd; have HT := Lib.hid ht
  have HC : Hid (∀ W, Below w.heap.size w W → W.cell? ⟨gd, 0, none⟩ = some (.pointer (some ⟨p, 0, none⟩)) ∧ W.cell? ⟨gn, 0, none⟩ = some (.string (str k)) ∧ W.cell? ⟨p, 1, none⟩ = some (.map (some m))) := Lib.hid fun W h => by
    have a2 := cell_blk ((h.block _ HR2.out.lt).trans HR2.out.own) 1
    exact ⟨(h.cell (p := ⟨gd, 0, none⟩) (cell_lt hd)).trans hd, (h.cell (p := ⟨gn, 0, none⟩) (cell_lt hs)).trans hs, a2⟩
  clear h hd hs hf hv hn ht
  go_enter Try.func71, Try.ntmps71
  go_upto_region 0 with (fail)
  apply wp_region_relH (H := []) 5 [(Sum.inl _ : TT), (Sum.inl _ : TT), (Sum.inl _ : TT), (Sum.inl _ : TT), (Sum.inl _ : TT)] (by kernel_rfl) (by kernel_rfl) (fun _ _ _ _ _ h => h) rfl
  simp only [List.take_succ_cons, List.take_zero, List.drop_succ_cons, List.drop_zero]
  iterate 5 (apply rel_isS; (intro W hW hf; obtain ⟨x1, x2, x3⟩ := HC.out W hW; go_simp; first | exact ⟨StayS.refl _ _, rfl⟩ | rfl); simp only [Act.put, List.setIfInBounds_toArray, List.set_cons_succ, List.set_cons_zero])
  refine rel_endS ?_
  intro W hW hf
  try simp only [Act.put, List.setIfInBounds_toArray, List.set_cons_succ, List.set_cons_zero]
  have HR3 := Lib.hid (HR2.out.below hW)
  have HW := Lib.hid hW
  clear hW hf
  obtain ⟨w5, hrun, h5, h6⟩ := HR3.out.drop k hk 0
  have H5 := Lib.hid h5; have H6 := Lib.hid h6
  clear h5 h6
  go_upto_region 1 with (fail)
  clear hrun
  have hcf := cell_blk ((HW.out.block _ (lt_blk HF.out)).trans HF.out)
  have hnm : gf ≠ m := HR3.out.no_map (i := 2) (hcf 2)
  have hfb : w5.heap[gf]? = _ := (H6.out.block gf (cell_lt (hcf 2)) (by simpa using hnm)).trans ((HW.out.block _ (lt_blk HF.out)).trans HF.out)
  have hdc : w5.cell? ⟨gd, 0, none⟩ = some (.pointer (some ⟨p, 0, none⟩)) := by
    have h1 := (HW.out.cell (p := ⟨gd, 0, none⟩) (cell_lt HD.out)).trans HD.out
    exact (World.cell?_of_block (H6.out.block gd (cell_lt h1) (by simpa using HR3.out.no_map h1))).trans h1
  have htc : w5.cell? ⟨gt, 0, none⟩ = some (.string (str k')) := by
    have h1 := (HW.out.cell (p := ⟨gt, 0, none⟩) (cell_lt HT.out)).trans HT.out
    exact (World.cell?_of_block (H6.out.block gt (cell_lt h1) (by simpa using HR3.out.no_map h1))).trans h1
  have HV5 := Lib.hid (HR3.out.fileV H6.out (HV.out.below HW.out))
  have f2 := cell_blk hfb 2
  simp only [List.getElem?_toArray, List.getElem?_cons_succ, List.getElem?_cons_zero] at f2
  have fz := fun i => free_blk hfb i
  have HF5 := Lib.hid hfb
  have f2' := f2
  clear hcf hfb
  go_upto_region 2 with (fail)
  have HR6 := Lib.hid (H5.out.set f2 rfl hgp (.bool true))
  have HV6 := Lib.hid (HV5.out.set (u := .bool true) f2 rfl)
  have HF6 := Lib.hid (set_blk HF5.out 2 (.bool true))
  have HW6 := Lib.hid (((Dw.of_below (p := gf) HW.out).then H6.out).trans (((Ow.refl w5 gf).set 2 (.bool true)).dw m))
  have d2 : (w5.setCell ⟨gf, 2, none⟩ (.bool true)).cell? ⟨gd, 0, none⟩ = some (.pointer (some ⟨p, 0, none⟩)) := (cell_set (by simp [hgd])).trans hdc
  have n2 : (w5.setCell ⟨gf, 2, none⟩ (.bool true)).cell? ⟨gt, 0, none⟩ = some (.string (str k')) := (cell_set (by simp [hgt])).trans htc
  generalize w5.setCell ⟨gf, 2, none⟩ (.bool true) = W2 at *
  clear f2 f2' fz hdc htc
  have HC2 : Hid (∀ W, Below W2.heap.size W2 W → W.cell? ⟨gd, 0, none⟩ = some (.pointer (some ⟨p, 0, none⟩)) ∧ W.cell? ⟨gt, 0, none⟩ = some (.string (str k')) ∧ W.cell? ⟨p, 1, none⟩ = some (.map (some m)) ∧ W.cell? ⟨gf, 0, none⟩ = some (.slice A len cap) ∧ W.cell? ⟨gf, 1, none⟩ = some (.int .i64 f.safe) ∧ W.cell? ⟨gf, 2, none⟩ = some (.bool true)) := Lib.hid fun W h => by
    have a1 := cell_blk ((h.block _ (lt_blk HF6.out)).trans HF6.out)
    have a2 := cell_blk ((h.block _ HR6.out.lt).trans HR6.out.own) 1
    exact ⟨(h.cell (p := ⟨gd, 0, none⟩) (cell_lt d2)).trans d2, (h.cell (p := ⟨gt, 0, none⟩) (cell_lt n2)).trans n2, a2, a1 0, a1 1, a1 2⟩
  clear d2 n2
  apply wp_region_relH (H := []) 6 [(Sum.inl _ : TT), (Sum.inl _ : TT), (Sum.inl _ : TT), (Sum.inl _ : TT), (Sum.inl _ : TT), (Sum.inl _ : TT)] (by kernel_rfl) (by kernel_rfl) (fun _ _ _ _ _ h => h) rfl
  simp only [List.take_succ_cons, List.take_zero, List.drop_succ_cons, List.drop_zero]
  iterate 6 (apply rel_isS; (intro W hW hf; obtain ⟨x1, x2, x3, x4, x5, x6⟩ := HC2.out W hW; go_simp; first | exact ⟨StayS.refl _ _, rfl⟩ | rfl); simp only [Act.put, List.setIfInBounds_toArray, List.set_cons_succ, List.set_cons_zero])
  refine rel_endS ?_
  intro W hW hf
  try simp only [Act.put, List.setIfInBounds_toArray, List.set_cons_succ, List.set_cons_zero]
  have HR7 := Lib.hid (HR6.out.below hW)
  have HV7 := Lib.hid (HV6.out.below hW)
  go_wp2_with (at_mapUpdate; refine wpList_layD HR7.out (by have := HN.out; have := del_length (l := fs) k; omega) k' hk' _ _ HV7.out rfl _ _ _ rfl rfl rfl rfl ?_; intro w8 h8 h9; have H8 := Lib.hid h8; have H9 := Lib.hid h9; clear h8 h9)
  go_end0
  exact ⟨rfl, H8.out, (HW6.out.trans (.of_below hW)).then H9.out⟩
end Go.Proofs.Ytjbpgjfnccmdaaa
end

section
set_option linter.unusedSimpArgs false
set_option linter.unusedVariables false
namespace Go.Proofs.Ytjbpgjfnccmdaaa
open Go.RowKit

set_option maxRecDepth 100000 in
set_option maxHeartbeats 2000000 in
theorem append1_at {w : World} {p m n : Nat} {left : Int} {writes : Nat} {fs : Nl Fl} (h : Raw w p m n left writes fs) (hn : fs.length ≤ 1000000) (k : Nm) (hk : k.length ≤ 9223372036854775807) (gf gb gd gn : Nat) (hgp : gf ≠ p) (A : Option Addr) (len cap : Nat) (f : Fl) (hl : len = f.b.length)
    (hf : w.heap[gf]? = some (.cells #[.slice A len cap, .int .i64 f.safe, .bool f.kept] 79 (0, 0))) (hA : Bs w w.heap.size A f.b) (hA0 : A = none → f.b = [])
    (b : List UInt8) (len2 capb : Nat) (C : Option Addr) (hl2 : len2 = b.length) (hC : Bs w w.heap.size C b) (hC0 : C = none → b = []) (hlen : len + len2 ≤ 67108864) (hsafe : f.safe ≤ f.b.length)
    (hb : w.cell? ⟨gb, 0, none⟩ = some (.slice C len2 capb))
    (hd : w.cell? ⟨gd, 0, none⟩ = some (.pointer (some ⟨p, 0, none⟩))) (hs : w.cell? ⟨gn, 0, none⟩ = some (.string (str k))) (hgd : gd ≠ gf) (hgn : gn ≠ gf) :
    Calls Try.prog 55 #[.pointer (some ⟨gf, 0, none⟩), .pointer (some ⟨gb, 0, none⟩), .pointer (some ⟨gd, 0, none⟩), .pointer (some ⟨gn, 0, none⟩)] w (ClP w gf p m n left writes (nput fs k ⟨f.b ++ b, f.safe, f.kept⟩)) := by
  have f0 := cell_blk hf 0
  simp only [List.getElem?_toArray, List.getElem?_cons_succ, List.getElem?_cons_zero] at f0
  have HF := Lib.hid hf; have HR := Lib.hid h; have HN := Lib.hid hn; have HA := Lib.hid hA; have HC := Lib.hid hC; have HA0 := Lib.hid hA0; have HC0 := Lib.hid hC0; have HL := Lib.hid hl; have HL2 := Lib.hid hl2; have HD := Lib.hid hd; have HS := Lib.hid hs
  have HSF := Lib.hid hsafe; have HLEN := Lib.hid hlen
  clear hf h hn hA hC hA0 hC0 hl hl2 hd hs hsafe
  go_enter Try.func55, Try.ntmps55
  go_wp2_with fail
  obtain ⟨b0_, hb_⟩ := boxes1 w (.cells #[.slice A len cap, .slice C len2 capb] 31)
  generalize w.alloc (.cells #[.slice A len cap, .slice C len2 capb] 31) = w1 at *
  have T0 : Hid (∀ W, Below w1.heap.size w1 W → W.cell? ⟨w.heap.size, 0, none⟩ = some (.slice A len cap) ∧ W.cell? ⟨w.heap.size, 1, none⟩ = some (.slice C len2 capb)) := Lib.hid (fun W hW => by have e := (hW.block _ (lt_blk b0_)).trans b0_; exact ⟨by rw [cell_blk e]; rfl, by rw [cell_blk e]; rfl⟩)
  have HB := Lib.hid hb_
  clear hb_ b0_
  have t0 := T0.out w1 (Below.refl _ _)
  have HCC := Lib.hid (concat_at w.heap.size f.b b len len2 HL.out HL2.out (by omega) (by omega) A C cap capb w1 t0.1 t0.2 (cell_lt t0.1) ((HA.out.below HB.out).more HB.out.size) ((HC.out.below HB.out).more HB.out.size) HA0.out HC0.out)
  clear t0 f0
  refine HCC.out.mono ?_
  rintro e w2 ⟨v, rfl, ho, hb2⟩
  obtain ⟨A2, c2, rfl, hrd, hA2, hcap2⟩ := own_rdS ho
  have HB2 := Lib.hid (HB.out.trans (hb2.mono HB.out.size))
  have HBS := Lib.hid hrd.bs
  have HA2 := Lib.hid hA2
  have HCAP := Lib.hid hcap2
  clear ho hb2 hrd hA2 hcap2
  have hf2 := (HB2.out.block gf (lt_blk HF.out)).trans HF.out
  have f0 := cell_blk hf2 0
  simp only [List.getElem?_toArray, List.getElem?_cons_succ, List.getElem?_cons_zero] at f0
  have fz := fun i => free_blk hf2 i
  have HF2 := Lib.hid hf2
  clear hf2
  have f0' := f0
  go_upto_region 1 with (fail)
  have HR3 := Lib.hid ((HR.out.below HB2.out).set f0 rfl hgp (.slice A2 (len + len2) c2))
  have HF3 := Lib.hid (set_blk HF2.out 0 (.slice A2 (len + len2) c2))
  have HBS3 := Lib.hid (HBS.out.set f0 rfl (v := .slice A2 (len + len2) c2))
  have HW3 := Lib.hid ((((Ow.refl w gf).below HB2.out)).set 0 (.slice A2 (len + len2) c2))
  have d2 : (w2.setCell ⟨gf, 0, none⟩ (.slice A2 (len + len2) c2)).cell? ⟨gd, 0, none⟩ = some (.pointer (some ⟨p, 0, none⟩)) := (cell_set (by simp [hgd])).trans ((HB2.out.cell (p := ⟨gd, 0, none⟩) (cell_lt HD.out)).trans HD.out)
  have n2 : (w2.setCell ⟨gf, 0, none⟩ (.slice A2 (len + len2) c2)).cell? ⟨gn, 0, none⟩ = some (.string (str k)) := (cell_set (by simp [hgn])).trans ((HB2.out.cell (p := ⟨gn, 0, none⟩) (cell_lt HS.out)).trans HS.out)
  have hsz : (w2.setCell ⟨gf, 0, none⟩ (.slice A2 (len + len2) c2)).heap.size = w2.heap.size := World.size_setCell _ _ _
  generalize w2.setCell ⟨gf, 0, none⟩ (.slice A2 (len + len2) c2) = W2 at *
  have HV3 : Hid (FileV W2 (.agg #[.slice A2 (len + len2 : Nat) c2, .int .i64 f.safe, .bool f.kept]) ⟨f.b ++ b, f.safe, f.kept⟩) := Lib.hid ⟨A2, c2, by simp [HL.out, HL2.out], by rw [hsz]; exact HBS3.out, by simp [← HL.out, ← HL2.out]; exact HCAP.out, by have := HSF.out; simp; omega, by have h1 := HLEN.out; have h2 := HL.out; have h3 := HL2.out; simp only [List.length_append]; omega, fun h => by have h1 := HA2.out h; have := HL.out; have := HL2.out; exact List.eq_nil_of_length_eq_zero (by rw [List.length_append]; omega)⟩
  clear f0 f0' fz hsz
  have HC : Hid (∀ W, Below W2.heap.size W2 W → W.cell? ⟨gd, 0, none⟩ = some (.pointer (some ⟨p, 0, none⟩)) ∧ W.cell? ⟨gn, 0, none⟩ = some (.string (str k)) ∧ W.cell? ⟨p, 1, none⟩ = some (.map (some m)) ∧ W.cell? ⟨gf, 0, none⟩ = some (.slice A2 (len + len2) c2) ∧ W.cell? ⟨gf, 1, none⟩ = some (.int .i64 f.safe) ∧ W.cell? ⟨gf, 2, none⟩ = some (.bool f.kept)) := Lib.hid fun W h => by
    have a1 := cell_blk ((h.block _ (lt_blk HF3.out)).trans HF3.out)
    have a2 := cell_blk ((h.block _ HR3.out.lt).trans HR3.out.own) 1
    exact ⟨(h.cell (p := ⟨gd, 0, none⟩) (cell_lt d2)).trans d2, (h.cell (p := ⟨gn, 0, none⟩) (cell_lt n2)).trans n2, a2, a1 0, a1 1, a1 2⟩
  clear d2 n2
  apply wp_region_relH (H := []) 6 [(Sum.inl _ : TT), (Sum.inl _ : TT), (Sum.inl _ : TT), (Sum.inl _ : TT), (Sum.inl _ : TT), (Sum.inl _ : TT)] (by kernel_rfl) (by kernel_rfl) (fun _ _ _ _ _ h => h) rfl
  simp only [List.take_succ_cons, List.take_zero, List.drop_succ_cons, List.drop_zero]
  iterate 6 (apply rel_isS; (intro W hW hf; obtain ⟨x1, x2, x3, x4, x5, x6⟩ := HC.out W hW; go_simp; first | exact ⟨StayS.refl _ _, rfl⟩ | rfl); simp only [Act.put, List.setIfInBounds_toArray, List.set_cons_succ, List.set_cons_zero])
  refine rel_endS ?_
  intro W hW hf
  try simp only [Act.put, List.setIfInBounds_toArray, List.set_cons_succ, List.set_cons_zero]
  have HR4 := Lib.hid (HR3.out.below hW)
  have HV4 := Lib.hid (HV3.out.below hW)
  go_wp2_with (at_mapUpdate; refine wpList_layD HR4.out HN.out k hk _ _ HV4.out rfl _ _ _ rfl rfl rfl rfl ?_; intro w5 h5 h6; have H5 := Lib.hid h5; have H6 := Lib.hid h6; clear h5 h6)
  go_end0
  exact ⟨rfl, H5.out, ((HW3.out.below hW).dw m).then H6.out⟩
end Go.Proofs.Ytjbpgjfnccmdaaa
end

section
set_option linter.unusedSimpArgs false
set_option linter.unusedVariables false
namespace Go.Proofs.Ytjbpgjfnccmdaaa
open Go.RowKit

def FileR (f : Fl) (v : Value) (w : World) : Prop := FileV w v f
theorem FileR.keepsS (f : Fl) : KeepsS (FileR f) := fun v w w' h hb => FileV.below h hb
def ClR (l : List UInt8) (n : Nat) (v : Value) (w : World) : Prop := ∃ A cap, v = .slice A n cap ∧ Bs w w.heap.size A l ∧ (A = none → l = []) ∧ n ≤ cap
theorem ClR.keepsS (l : List UInt8) (n : Nat) : KeepsS (ClR l n) := fun v w w' h hb => by
  obtain ⟨A, cap, h1, h2, h3⟩ := h
  exact ⟨A, cap, h1, (h2.below hb).more hb.size, h3⟩
theorem Bs.take {w : World} {B : Nat} {A : Option Addr} {l : List UInt8} (h : Bs w B A l) (n : Nat) : Bs w B A (l.take n) := fun j hj => by
  have h1 : j < n := by simp at hj; omega
  have h2 : j < l.length := by simp at hj; omega
  obtain ⟨b, off, h3, h4, h5⟩ := h j h2
  refine ⟨b, off, h3, h4, ?_⟩
  rw [h5]
  simp [List.getD_eq_getElem?_getD, List.getElem?_take, h1]
set_option maxRecDepth 100000 in
set_option maxHeartbeats 2000000 in
theorem cut1_at {w : World} {p m n : Nat} {left : Int} {writes : Nat} {fs : Nl Fl} (h : Raw w p m n left writes fs) (hn : fs.length ≤ 1000000) (k : Nm) (hk : k.length ≤ 9223372036854775807) (gf gs gd gn : Nat) (A : Option Addr) (len cap : Nat) (f : Fl) (hl : len = f.b.length)
    (hf : w.heap[gf]? = some (.cells #[.slice A len cap, .int .i64 f.safe, .bool f.kept] 79 (0, 0))) (hA : Bs w w.heap.size A f.b) (hA0 : A = none → f.b = []) (hlen : len ≤ 67108864) (hcap : len ≤ cap) (c : Nat) (hc : c ≤ len)
    (hz : w.cell? ⟨gs, 0, none⟩ = some (.int .i64 c))
    (hd : w.cell? ⟨gd, 0, none⟩ = some (.pointer (some ⟨p, 0, none⟩))) (hs : w.cell? ⟨gn, 0, none⟩ = some (.string (str k))) :
    Calls Try.prog 70 #[.pointer (some ⟨gf, 0, none⟩), .pointer (some ⟨gs, 0, none⟩), .pointer (some ⟨gd, 0, none⟩), .pointer (some ⟨gn, 0, none⟩)] w (ClP w gf p m n left writes (nput fs k ⟨f.b.take c, c, true⟩)) := by
  have HR := Lib.hid h; have HN := Lib.hid hn
  have HC : Hid (∀ W, Below w.heap.size w W → W.cell? ⟨gd, 0, none⟩ = some (.pointer (some ⟨p, 0, none⟩)) ∧ W.cell? ⟨gn, 0, none⟩ = some (.string (str k)) ∧ W.cell? ⟨p, 1, none⟩ = some (.map (some m)) ∧ W.cell? ⟨gf, 0, none⟩ = some (.slice A len cap) ∧ W.cell? ⟨gs, 0, none⟩ = some (.int .i64 c)) := Lib.hid fun W h => by
    have a1 := cell_blk ((h.block _ (lt_blk hf)).trans hf)
    have a2 := cell_blk ((h.block _ HR.out.lt).trans HR.out.own) 1
    exact ⟨(h.cell (p := ⟨gd, 0, none⟩) (cell_lt hd)).trans hd, (h.cell (p := ⟨gn, 0, none⟩) (cell_lt hs)).trans hs, a2, a1 0, (h.cell (p := ⟨gs, 0, none⟩) (cell_lt hz)).trans hz⟩
  have ht : (f.b.take c).length = c := by rw [List.length_take]; omega
  have HT := Lib.hid ht
  have HCL : Hid (∀ W, Below w.heap.size w W → Calls Try.prog 51 #[.slice A c cap] W fun e w' => ∃ v, e = .returned v ∧ Below W.heap.size W w' ∧ ClR (f.b.take c) c v w') := Lib.hid fun W h => by
    have h1 := clone_bytes (f.b.take c) (by omega) A cap w.heap.size W ((hA.below h).take c) (fun h => by rw [hA0 h]; simp) h.size
    rw [ht] at h1
    refine h1.mono ?_
    rintro e w' ⟨A', cap', rfl, h2, h3, h4, h5⟩
    rw [ht] at h4 ⊢
    exact ⟨_, rfl, h5, A', cap', rfl, h2, h3, h4⟩
  have hcc : c ≤ cap := by omega
  have hc63 : c ≤ 67108864 := by omega
  clear h hd hs hf hn hA hA0 hl hz ht
  go_enter Try.func70, Try.ntmps70
  go_upto_region 0 with (fail)
  apply wp_region_relH (H := []) 12 [(Sum.inl _ : TT), (Sum.inl _ : TT), (Sum.inl _ : TT), (Sum.inl _ : TT), (Sum.inl _ : TT), (Sum.inl _ : TT), (Sum.inl _ : TT), (Sum.inl _ : TT), (Sum.inl _ : TT), .inr (ClR (f.b.take c) c), (Sum.inl _ : TT), .inr (FileR ⟨f.b.take c, c, true⟩)] (by kernel_rfl) (by kernel_rfl) (fun _ _ _ _ _ h => h) rfl
  simp only [List.take_succ_cons, List.take_zero, List.drop_succ_cons, List.drop_zero]
  iterate 9 (apply rel_isS; (intro W hW hf; obtain ⟨x1, x2, x3, x4, x5⟩ := HC.out W hW; go_simp; first | exact ⟨StayS.refl _ _, rfl⟩ | rfl); simp only [Act.put, List.setIfInBounds_toArray, List.set_cons_succ, List.set_cons_zero])
  refine rel_fitsS (fun W hW hf => rel_callS hW rfl (by go_simp <;> first | rfl | exact ⟨rfl, rfl⟩ | exact ⟨rfl, rfl, rfl⟩) (HCL.out W hW)) (ClR.keepsS _ _) fun v13 => ?_
  simp only [Act.put, List.setIfInBounds_toArray, List.set_cons_succ, List.set_cons_zero]
  iterate 1 (apply rel_isS; (intro W hW hf; obtain ⟨x1, x2, x3, x4, x5⟩ := HC.out W hW; go_simp; first | exact ⟨StayS.refl _ _, rfl⟩ | rfl); simp only [Act.put, List.setIfInBounds_toArray, List.set_cons_succ, List.set_cons_zero])
  refine rel_fitsS (fun W hW hf => ?_) (FileR.keepsS _) fun v15 => ?_
  · have h := hf (13, ClR (f.b.take c) c v13) (by simp) (by simp [Oper.looksAt, Op.operands, Call.operands])
    obtain ⟨A', cap', rfl, h2, h3, h4⟩ := h
    go_simp
    exact ⟨StayS.refl _ _, A', cap', by simp only [HT.out], h2, by simp only [HT.out]; exact h4, by simp only [HT.out]; exact Nat.le_refl _, by simp only [HT.out]; exact hc63, h3⟩
  simp only [Act.put, List.setIfInBounds_toArray, List.set_cons_succ, List.set_cons_zero]
  refine rel_endS ?_
  intro W hW hf
  try simp only [Act.put, List.setIfInBounds_toArray, List.set_cons_succ, List.set_cons_zero]
  have hv := hf (15, FileR ⟨f.b.take c, c, true⟩ v15) (by simp)
  have HV := Lib.hid hv
  have HR3 := Lib.hid (HR.out.below hW)
  clear hf hv
  go_wp2_with (at_mapUpdate; refine wpList_layD HR3.out HN.out k hk _ _ HV.out rfl _ _ _ rfl rfl rfl rfl ?_; intro w5 h5 h6; have H5 := Lib.hid h5; have H6 := Lib.hid h6; clear h5 h6)
  go_end0
  exact ⟨rfl, H5.out, (Dw.of_below hW).then H6.out⟩
end Go.Proofs.Ytjbpgjfnccmdaaa
end
