/- several texts in one: disk.write: whatever its closure does., disks: what a file's lookup gives; behind a write., disks under way: the map's writes at the operations., disk.Sync. -/
import Derived.Test.YtegekaocbalndaaGreatDoorMg5
import Derived.Test.YtegekaocbalndaaGreatDoorBy
import Derived.Test.YtegekaocbalndaaGreatDoorBx
import Derived.Test.YtegekaocbalndaaGreatDoorSm
section
set_option linter.unusedSimpArgs false
set_option linter.unusedVariables false
namespace Go.Proofs.YtegekaocbalndaaGreatDoor
open Go.RowKit

def dcells (n m : Nat) (left : Int) (writes : Nat) : Obj := .cells #[.int .i64 n, .map (some m), .int .i64 left, .int .i64 writes] 53
/-- all but one block stays. -/
structure Ow (w w' : World) (p : Nat) : Prop where
  os : w'.os = w.os
  tape : w'.tape = w.tape
  output : w'.output = w.output
  size : w.heap.size ≤ w'.heap.size
  block : ∀ k, k < w.heap.size → k ≠ p → w'.heap[k]? = w.heap[k]?
theorem Ow.refl (w : World) (p : Nat) : Ow w w p := ⟨rfl, rfl, rfl, Nat.le_refl _, fun _ _ _ => rfl⟩
theorem Ow.set {w w' : World} {p : Nat} (h : Ow w w' p) (i : Nat) (v : Value) : Ow w (w'.setCell ⟨p, i, none⟩ v) p :=
  ⟨h.os, h.tape, h.output, by rw [World.size_setCell]; exact h.size, fun k hk hne => by
    have e : (w'.setCell ⟨p, i, none⟩ v).heap[k]? = w'.heap[k]? := Below.heap_setCell _ _ _ _ hne
    exact e.trans (h.block k hk hne)⟩
set_option maxRecDepth 100000 in
set_option maxHeartbeats 2000000 in
theorem write_off {w : World} {p m : Nat} {d : Dk} (h : DiskAt w p m d) (h0 : d.left = 0) (f : Value) : Calls Tryz.prog 71 #[.pointer (some ⟨p, 0, none⟩), f] w fun e w' => e = .returned (.int .i64 13) ∧ w' = w := by
  have c2 := cell_blk h.own 2
  simp only [List.getElem?_toArray, List.getElem?_cons_succ, List.getElem?_cons_zero] at c2
  rw [h0] at c2
  clear h h0
  go_enter Tryz.func71, Tryz.ntmps71
  go_wp2_with fail
  go_ret
  exact ⟨rfl, rfl⟩
set_option maxRecDepth 100000 in
set_option maxHeartbeats 2000000 in
theorem write_on {w : World} {p m : Nat} {d : Dk} (h : DiskAt w p m d) (h0 : d.left ≠ 0) (hw : d.writes < 1000000000000) (F : FuncId) (hE : ∀ args w, (callFunc F args).run Tryz.prog w = .ok (.enter F args) w) (caps : Array Value) (Q : World → Prop)
    (hdo : ∀ w1, w1.heap[p]? = some (dcells d.size m (if 0 < d.left then d.left - 1 else d.left) (d.writes + 1)) → Ow w w1 p → Calls Tryz.prog F caps w1 fun e w2 => e = .returned (.tuple #[]) ∧ Q w2) :
    Calls Tryz.prog 71 #[.pointer (some ⟨p, 0, none⟩), .func (.func F) #[] caps] w fun e w' => e = .returned (.int .i64 0) ∧ Q w' := by
  have ho := h.own
  have hl := h.ok.left
  generalize d.left = lf at *
  generalize d.writes = wt at *
  generalize d.size = n at *
  have hp := h.lt
  clear h
  have HO := Lib.hid ho
  have HD := Lib.hid hdo
  have c2 := cell_blk ho 2
  have c3 := cell_blk ho 3
  simp only [List.getElem?_toArray, List.getElem?_cons_succ, List.getElem?_cons_zero] at c2 c3
  have fz := fun i => free_blk ho i
  clear ho hdo
  rcases Int.lt_trichotomy 0 lf with h1 | h1 | h1
  · rw [if_pos h1] at HD
    go_enter Tryz.func71, Tryz.ntmps71
    go_wp2_with fail
    refine (HD.out _ (set_blk (set_blk HO.out 2 _) 3 _) (((Ow.refl w p).set 2 _).set 3 _)).mono ?_
    rintro e w1 ⟨rfl, hq⟩
    have HQ := Lib.hid hq
    clear hq
    go_wp2_with fail
    go_ret
    exact ⟨rfl, HQ.out⟩
  · exact absurd h1.symm h0
  · rw [if_neg (by omega)] at HD
    have h2 : ¬ 0 < lf := by omega
    go_enter Tryz.func71, Tryz.ntmps71
    go_wp2_with fail
    refine (HD.out _ (set_blk HO.out 3 _) ((Ow.refl w p).set 3 _)).mono ?_
    rintro e w1 ⟨rfl, hq⟩
    have HQ := Lib.hid hq
    clear hq
    go_wp2_with fail
    go_ret
    exact ⟨rfl, HQ.out⟩
end Go.Proofs.YtegekaocbalndaaGreatDoor
end

section
set_option linter.unusedSimpArgs false
set_option linter.unusedVariables false
namespace Go.Proofs.YtegekaocbalndaaGreatDoor
open Go.RowKit

abbrev UM := 51
/-- the file's value that a lookup gives. -/
def zfile : Value := .agg #[.slice none 0 0, .int .i64 0, .bool false]
theorem keyStr (l : Nm) (h : l.length ≤ 9223372036854775807) : keyOf Tryz.prog 9 (.string (str l)) = some (.string l) := by
  simp only [keyOf, Tryz.underlying9, mapKey]
  have h2 : (str l).size ≤ maxLen := by
    have : maxLen = 9223372036854775807 := rfl
    rw [str_len]; omega
  rw [if_pos h2]
  simp [str]
theorem Alike.look {w : World} {vs : Nl Value} {fs : Nl Fl} (h : Alike (FileV w) vs fs) (k : Nm) : (nget vs k).isSome = (nget fs k).isSome ∧ FileV w ((nget vs k).getD zfile) ((nget fs k).getD fl0) := by
  rcases h.get k with ⟨h1, h2⟩ | ⟨a, b, h1, h2, h3⟩
  · rw [h1, h2]
    exact ⟨rfl, none, 0, rfl, Bs.nil _ _ _, Nat.le_refl _, Nat.le_refl _, by simp [fl0], fun _ => rfl⟩
  · rw [h1, h2]
    exact ⟨rfl, h3⟩
/-- a world in which a disk's map lies as it did. -/
theorem look_file {w : World} {p m : Nat} {d : Dk} (h : DiskAt w p m d) (k : Nm) (hk : k.length ≤ 9223372036854775807) : ∃ A cap, FileV w (.agg #[.slice A (d.file k).b.length cap, .int .i64 (d.file k).safe, .bool (d.file k).kept]) (d.file k) ∧
    (∀ W, W.heap[m]? = w.heap[m]? → (Instr.lookup UM (.map (some m)) (.string (str k)) true).run Tryz.prog W = .ok (.tuple #[.agg #[.slice A (d.file k).b.length cap, .int .i64 (d.file k).safe, .bool (d.file k).kept], .bool (d.has k)]) W) ∧
    (∀ W, W.heap[m]? = w.heap[m]? → (Instr.lookup UM (.map (some m)) (.string (str k)) false).run Tryz.prog W = .ok (.agg #[.slice A (d.file k).b.length cap, .int .i64 (d.file k).safe, .bool (d.file k).kept]) W) ∧
    Bs w w.heap.size A (d.file k).b ∧ (A = none → (d.file k).b = []) ∧ (d.file k).b.length ≤ cap := by
  obtain ⟨vs, h1, h2⟩ := h.files
  obtain ⟨h3, h4⟩ := h2.look k
  obtain ⟨A, cap, h5, h6, h7, h8, h9, h10⟩ := h4
  refine ⟨A, cap, ⟨A, cap, rfl, h6, h7, h8, h9, h10⟩, fun W hW => ?_, fun W hW => ?_, h6, h10, h7⟩
  · have := (h1.at hW).look_ok (Maps.string_keyed Tryz.underlying9) Tryz.underlying51 (Tryz.zeroValue78 W) (keyStr k hk)
    rw [this]
    change (Result.ok (Value.tuple #[(nget vs k).getD zfile, Value.bool (nget vs k).isSome]) W) = _
    rw [h5, h3]
    rfl
  · have := (h1.at hW).look (Maps.string_keyed Tryz.underlying9) Tryz.underlying51 (Tryz.zeroValue78 W) (keyStr k hk)
    rw [this]
    change (Result.ok ((nget vs k).getD zfile) W) = _
    rw [h5]
    rfl
end Go.Proofs.YtegekaocbalndaaGreatDoor
end

section
set_option linter.unusedSimpArgs false
set_option linter.unusedVariables false
namespace Go.Proofs.YtegekaocbalndaaGreatDoor
open Go.RowKit

/-- a disk's cells, and its files. -/
structure Raw (w : World) (p m n : Nat) (left : Int) (writes : Nat) (fs : Nl Fl) : Prop where
  own : w.heap[p]? = some (dcells n m left writes)
  files : ∃ vs, MapN Tryz.prog 9 w m vs ∧ Alike (FileV w) vs fs
section
variable {w w' : World} {p m n : Nat} {left : Int} {writes : Nat} {fs : Nl Fl}
theorem DiskAt.raw {d : Dk} (h : DiskAt w p m d) : Raw w p m d.size d.left d.writes d.fs := ⟨h.own, h.files⟩
theorem Raw.disk (h : Raw w p m n left writes fs) (hok : (Dk.mk n fs left writes).Ok) : DiskAt w p m ⟨n, fs, left, writes⟩ := ⟨h.own, hok, h.files⟩
theorem Raw.lt (h : Raw w p m n left writes fs) : p < w.heap.size := lt_blk h.own
theorem Raw.ltm (h : Raw w p m n left writes fs) : m < w.heap.size := by
  obtain ⟨vs, h1, _⟩ := h.files
  exact h1.lt
theorem Raw.ne (h : Raw w p m n left writes fs) : m ≠ p := by
  obtain ⟨vs, ⟨es, c, h1, _⟩, _⟩ := h.files
  rintro rfl
  rw [h.own] at h1
  cases h1
theorem Raw.no_map (h : Raw w p m n left writes fs) {b i : Nat} {v : Value} (hc : w.cell? ⟨b, i, none⟩ = some v) : b ≠ m := by
  rintro rfl
  obtain ⟨vs, ⟨es, c, h1, _⟩, _⟩ := h.files
  simp [World.cell?, h1] at hc
theorem Raw.bs (h : Raw w p m n left writes fs) (hg : w.grownBy w' (some m)) {B : Nat} (hB : B ≤ w.heap.size) {A : Option Addr} {l : List UInt8} (hl : Bs w B A l) : Bs w' B A l := fun j hj => by
  obtain ⟨b, off, h1, h2, h3⟩ := hl j hj
  have h4 := h.no_map h3
  exact ⟨b, off, h1, h2, (World.cell?_of_block (hg.block b (by omega) (by simpa using h4))).trans h3⟩
theorem Raw.fileV (h : Raw w p m n left writes fs) (hg : w.grownBy w' (some m)) {v : Value} {f : Fl} (hv : FileV w v f) : FileV w' v f := by
  obtain ⟨A, cap, h1, h2, h3⟩ := hv
  exact ⟨A, cap, h1, (h.bs hg (Nat.le_refl _) h2).more hg.size, h3⟩
theorem FileV.below {v : Value} {f : Fl} (hv : FileV w v f) (hb : Below w.heap.size w w') : FileV w' v f := by
  obtain ⟨A, cap, h1, h2, h3⟩ := hv
  exact ⟨A, cap, h1, (h2.below hb).more hb.size, h3⟩
theorem Raw.below (h : Raw w p m n left writes fs) (hb : Below w.heap.size w w') : Raw w' p m n left writes fs := by
  obtain ⟨vs, h1, h2⟩ := h.files
  exact ⟨(hb.block p h.lt).trans h.own, vs, h1.at (hb.block m h.ltm), h2.mono fun v f hv => hv.below hb⟩
theorem Raw.lay (h : Raw w p m n left writes fs) (hn : fs.length ≤ 1000000) (k : Nm) (hk : k.length ≤ 9223372036854775807) (v : Value) (f : Fl) (hv : FileV w v f) :
    ∃ w', (Instr.mapUpdate UM (.map (some m)) (.string (str k)) v).run Tryz.prog w = .ok () w' ∧ Raw w' p m n left writes (nput fs k f) ∧ w.grownBy w' (some m) := by
  obtain ⟨vs, h1, h2⟩ := h.files
  obtain ⟨w', h3, h4, h5⟩ := h1.store (Maps.string_keyed Tryz.underlying9) Tryz.underlying51 (by rw [h2.length]; have : maxLen = 9223372036854775807 := rfl; omega) (keyStr k hk) (val := v)
  have hg := h5.grown
  exact ⟨w', h3, ⟨(hg.block p h.lt (by simpa using h.ne.symm)).trans h.own, _, h4, Alike.put (h2.mono fun v f hv => h.fileV hg hv) k (h.fileV hg hv)⟩, hg⟩
theorem Raw.drop (h : Raw w p m n left writes fs) (k : Nm) (hk : k.length ≤ 9223372036854775807) (ty : TypeId) :
    ∃ w', (Builtin.delete_ #[UM, 9] ty #[.map (some m), .string (str k)]).run Tryz.prog w = .ok (.tuple #[]) w' ∧ Raw w' p m n left writes (ndel fs k) ∧ w.grownBy w' (some m) := by
  obtain ⟨vs, h1, h2⟩ := h.files
  obtain ⟨w', h3, h4, h5⟩ := h1.drop (Maps.string_keyed Tryz.underlying9) Tryz.underlying51 (keyStr k hk) ty
  have hg := h5.grown
  exact ⟨w', h3, ⟨(hg.block p h.lt (by simpa using h.ne.symm)).trans h.own, _, h4, (h2.mono fun v f hv => h.fileV hg hv).del k⟩, hg⟩
theorem wpList_layD {ops : Array Oper} {rest : List Oper} {o : Oper} {a : Act} {Q : Exit → Act → World → Prop} (h : Raw w p m n left writes fs) (hn : fs.length ≤ 1000000) (k : Nm) (hk : k.length ≤ 9223372036854775807) (v : Value) (f : Fl) (hv : FileV w v f)
    (hg : o.guard = none) (mo x vo : Operand) (hop : o.op = Op.mapUpdate UM mo x vo) (hm : a.eval mo = .map (some m)) (hx : a.eval x = .string (str k)) (hvo : a.eval vo = v)
    (hK : ∀ w', Raw w' p m n left writes (nput fs k f) → w.grownBy w' (some m) → wpList Tryz.prog ops Q rest (a.put o.dst undef) w') :
    wpList Tryz.prog ops Q (o :: rest) a w := by
  refine wpList_plain hg fun K' hK' => ?_
  obtain ⟨w', hrun, r1, r2⟩ := h.lay hn k hk v f hv
  unfold Oper.wp
  simp [execOp, hop, hm, hx, hvo, hrun, Result.andThen]
  exact hK' _ _ (hK w' r1 r2)
theorem wpList_dropD {ops : Array Oper} {rest : List Oper} {o : Oper} {a : Act} {Q : Exit → Act → World → Prop} (h : Raw w p m n left writes fs) (k : Nm) (hk : k.length ≤ 9223372036854775807)
    (hg : o.guard = none) (mo x : Operand) (hop : o.op = Op.call { callee := Callee.builtin Builtin.delete, args := #[mo, x], argTypes := #[UM, 9] }) (hm : a.eval mo = .map (some m)) (hx : a.eval x = .string (str k))
    (hK : ∀ w', Raw w' p m n left writes (ndel fs k) → w.grownBy w' (some m) → wpList Tryz.prog ops Q rest (a.put o.dst (.tuple #[])) w') :
    wpList Tryz.prog ops Q (o :: rest) a w := by
  refine wpList_plain hg fun K' hK' => ?_
  obtain ⟨w', hrun, r1, r2⟩ := h.drop k hk o.type
  unfold Oper.wp
  simp [execOp, hop, resolve, invoke, builtin, hm, hx, hrun, Result.andThen]
  exact hK' _ _ (hK w' r1 r2)
end
theorem Ow.below {w w' w2 : World} {p : Nat} (h : Ow w w' p) (hb : Below w'.heap.size w' w2) : Ow w w2 p := ⟨hb.os.trans h.os, hb.tape.trans h.tape, hb.output.trans h.output, Nat.le_trans h.size hb.size, fun k hk hne => (hb.block k (Nat.lt_of_lt_of_le hk h.size)).trans (h.block k hk hne)⟩
theorem Ow.dw {w w' : World} {p : Nat} (h : Ow w w' p) (m : Nat) : Dw w w' p m := ⟨h.os, h.tape, h.output, h.size, fun k hk h3 _ => h.block k hk h3⟩
theorem Dw.then {w w1 w' : World} {p m : Nat} (h : Dw w w1 p m) (hg : w1.grownBy w' (some m)) : Dw w w' p m := h.trans ⟨hg.os, hg.tape, hg.output, hg.size, fun k hk _ h4 => hg.block k hk (by simpa using h4)⟩
/-- behind the counts. -/
theorem raw_of {w w1 : World} {p m : Nat} {d : Dk} (h : DiskAt w p m d) (ho : w1.heap[p]? = some (dcells d.size m (if 0 < d.left then d.left - 1 else d.left) (d.writes + 1))) (how : Ow w w1 p) : Raw w1 p m d.size (if 0 < d.left then d.left - 1 else d.left) (d.writes + 1) d.fs := by
  obtain ⟨vs, h1, h2⟩ := h.files
  exact ⟨ho, ⟨vs, h1.at (how.block m h.ltm h.ne), h2.mono fun v f hv => h.fileV (how.dw m) hv⟩⟩
end Go.Proofs.YtegekaocbalndaaGreatDoor
end

section
set_option linter.unusedSimpArgs false
set_option linter.unusedVariables false
namespace Go.Proofs.YtegekaocbalndaaGreatDoor
open Go.RowKit

def noU8 : Value → Bool
  | .int .u8 _ => false
  | _ => true
theorem cell_set {w : World} {q r : Addr} {v : Value} (h : r ≠ q) : (w.setCell q v).cell? r = w.cell? r := by apply World.cell?_setCell_other; exact h.symm
theorem cell_lt {w : World} {b i : Nat} {v : Value} (h : w.cell? ⟨b, i, none⟩ = some v) : b < w.heap.size := by
  rcases Nat.lt_or_ge b w.heap.size with h1 | h1
  · exact h1
  · have : w.heap[b]? = none := Array.getElem?_eq_none h1
    simp [World.cell?, this] at h
theorem Bs.set {w : World} {B g i : Nat} {c v : Value} (hc : w.cell? ⟨g, i, none⟩ = some c) (h8 : noU8 c = true) {A : Option Addr} {l : List UInt8} (h : Bs w B A l) : Bs (w.setCell ⟨g, i, none⟩ v) B A l := fun j hj => by
  obtain ⟨b, off, h1, h2, h3⟩ := h j hj
  refine ⟨b, off, h1, h2, ?_⟩
  have hne : (⟨b, off + j, none⟩ : Addr) ≠ ⟨g, i, none⟩ := by
    intro e
    rw [e, hc] at h3
    injection h3 with h3
    rw [h3] at h8
    cases h8
  rw [← h3]
  exact cell_set hne
theorem Raw.set {w : World} {p m n : Nat} {left : Int} {writes : Nat} {fs : Nl Fl} (h : Raw w p m n left writes fs) {g i : Nat} {c : Value} (hc : w.cell? ⟨g, i, none⟩ = some c) (h8 : noU8 c = true) (hp : g ≠ p) (v : Value) : Raw (w.setCell ⟨g, i, none⟩ v) p m n left writes fs := by
  obtain ⟨vs, h1, h2⟩ := h.files
  have hm := h.no_map hc
  refine ⟨(Below.heap_setCell _ _ _ _ (by simpa using hp.symm)).trans h.own, vs, h1.at (Below.heap_setCell _ _ _ _ (by simpa using hm.symm)), h2.mono fun v f hv => ?_⟩
  obtain ⟨A, cap, h3, h4, h5⟩ := hv
  exact ⟨A, cap, h3, by rw [World.size_setCell]; exact h4.set hc h8, h5⟩
theorem FileV.set {w : World} {g i : Nat} {c v u : Value} {f : Fl} (h : FileV w v f) (hc : w.cell? ⟨g, i, none⟩ = some c) (h8 : noU8 c = true) : FileV (w.setCell ⟨g, i, none⟩ u) v f := by
  obtain ⟨A, cap, h3, h4, h5⟩ := h
  exact ⟨A, cap, h3, by rw [World.size_setCell]; exact h4.set hc h8, h5⟩
/-- what a closure of a disk's leaves: files; but one new block all else stays. -/
def ClP (w : World) (g p m n : Nat) (left : Int) (writes : Nat) (fs : Nl Fl) (e : Ending) (w' : World) : Prop := e = .returned (.tuple #[]) ∧ Raw w' p m n left writes fs ∧ Dw w w' g m
theorem Dw.new {w w1 w' : World} {p m g : Nat} (h : Dw w w1 p m) (h2 : Dw w1 w' g m) (hg : w.heap.size ≤ g) : Dw w w' p m :=
  ⟨h2.os.trans h.os, h2.tape.trans h.tape, h2.output.trans h.output, Nat.le_trans h.size h2.size, fun k hk h3 h4 => (h2.block k (Nat.lt_of_lt_of_le hk h.size) (by omega) h4).trans (h.block k hk h3 h4)⟩
set_option maxRecDepth 100000 in
set_option maxHeartbeats 2000000 in
theorem sync1_at {w : World} {p m n : Nat} {left : Int} {writes : Nat} {fs : Nl Fl} (h : Raw w p m n left writes fs) (hn : fs.length ≤ 1000000) (k : Nm) (hk : k.length ≤ 9223372036854775807) (gf gd gn : Nat) (hgp : gf ≠ p) (A : Option Addr) (len cap : Nat) (f : Fl) (hl : len = f.b.length)
    (hf : w.heap[gf]? = some (.cells #[.slice A len cap, .int .i64 f.safe, .bool f.kept] 78 (0, 0))) (hv : FileV w (.agg #[.slice A len cap, .int .i64 len, .bool true]) ⟨f.b, len, true⟩)
    (hd : w.cell? ⟨gd, 0, none⟩ = some (.pointer (some ⟨p, 0, none⟩))) (hs : w.cell? ⟨gn, 0, none⟩ = some (.string (str k))) (hgd : gd ≠ gf) (hgn : gn ≠ gf) :
    Calls Tryz.prog 74 #[.pointer (some ⟨gf, 0, none⟩), .pointer (some ⟨gd, 0, none⟩), .pointer (some ⟨gn, 0, none⟩)] w (ClP w gf p m n left writes (nput fs k ⟨f.b, len, true⟩)) := by
  have c1 := cell_blk h.own 1
  simp only [List.getElem?_toArray, List.getElem?_cons_succ, List.getElem?_cons_zero] at c1
  have f0 := cell_blk hf 0
  have f1 := cell_blk hf 1
  have f2 := cell_blk hf 2
  simp only [List.getElem?_toArray, List.getElem?_cons_succ, List.getElem?_cons_zero] at f0 f1 f2
  have fz := fun i => free_blk hf i
  have HF := Lib.hid hf; have HV := Lib.hid hv; have HR := Lib.hid h; have HN := Lib.hid hn
  have f1' := f1; have f2' := f2
  clear hf hv h hn hl
  go_enter Tryz.func74, Tryz.ntmps74
  go_upto_region 1 with (fail)
  have HR2 := Lib.hid ((HR.out.set f1 rfl hgp (.int .i64 len)).set (show (w.setCell ⟨gf, 1, none⟩ (.int .i64 len)).cell? ⟨gf, 2, none⟩ = some (.bool f.kept) from (cell_set (by simp)).trans f2) rfl hgp (.bool true))
  have HV2 := Lib.hid ((HV.out.set (u := .int .i64 len) f1 rfl).set (u := .bool true) (show (w.setCell ⟨gf, 1, none⟩ (.int .i64 len)).cell? ⟨gf, 2, none⟩ = some (.bool f.kept) from (cell_set (by simp)).trans f2) rfl)
  have HF2 := Lib.hid (set_blk (set_blk HF.out 1 (.int .i64 len)) 2 (.bool true))
  have HW2 := Lib.hid (((Ow.refl w gf).set 1 (.int .i64 len)).set 2 (.bool true))
  have d2 : ((w.setCell ⟨gf, 1, none⟩ (.int .i64 len)).setCell ⟨gf, 2, none⟩ (.bool true)).cell? ⟨gd, 0, none⟩ = some (.pointer (some ⟨p, 0, none⟩)) := (cell_set (by simp [hgd])).trans ((cell_set (by simp [hgd])).trans hd)
  have n2 : ((w.setCell ⟨gf, 1, none⟩ (.int .i64 len)).setCell ⟨gf, 2, none⟩ (.bool true)).cell? ⟨gn, 0, none⟩ = some (.string (str k)) := (cell_set (by simp [hgn])).trans ((cell_set (by simp [hgn])).trans hs)
  generalize (w.setCell ⟨gf, 1, none⟩ (.int .i64 len)).setCell ⟨gf, 2, none⟩ (.bool true) = W2 at *
  clear f0 f1 f2 f1' f2' hd hs c1 fz
  have HC : Hid (∀ W, Below W2.heap.size W2 W → W.cell? ⟨gd, 0, none⟩ = some (.pointer (some ⟨p, 0, none⟩)) ∧ W.cell? ⟨gn, 0, none⟩ = some (.string (str k)) ∧ W.cell? ⟨p, 1, none⟩ = some (.map (some m)) ∧ W.cell? ⟨gf, 0, none⟩ = some (.slice A len cap) ∧ W.cell? ⟨gf, 1, none⟩ = some (.int .i64 len) ∧ W.cell? ⟨gf, 2, none⟩ = some (.bool true)) := Lib.hid fun W h => by
    have a1 := cell_blk ((h.block _ (lt_blk HF2.out)).trans HF2.out)
    have a2 := cell_blk ((h.block _ HR2.out.lt).trans HR2.out.own) 1
    exact ⟨(h.cell (p := ⟨gd, 0, none⟩) (cell_lt d2)).trans d2, (h.cell (p := ⟨gn, 0, none⟩) (cell_lt n2)).trans n2, a2, a1 0, a1 1, a1 2⟩
  clear d2 n2
  apply wp_region_relH (H := []) 6 [(Sum.inl _ : TT), (Sum.inl _ : TT), (Sum.inl _ : TT), (Sum.inl _ : TT), (Sum.inl _ : TT), (Sum.inl _ : TT)] (by kernel_rfl) (by kernel_rfl) (fun _ _ _ _ _ h => h) rfl
  simp only [List.take_succ_cons, List.take_zero, List.drop_succ_cons, List.drop_zero]
  iterate 6 (apply rel_isS; (intro W hW hf; obtain ⟨x1, x2, x3, x4, x5, x6⟩ := HC.out W hW; go_simp; first | exact ⟨StayS.refl _ _, rfl⟩ | rfl); simp only [Act.put, List.setIfInBounds_toArray, List.set_cons_succ, List.set_cons_zero])
  refine rel_endS ?_
  intro W hW hf
  try simp only [Act.put, List.setIfInBounds_toArray, List.set_cons_succ, List.set_cons_zero]
  have HR3 := Lib.hid (HR2.out.below hW)
  have HV3 := Lib.hid (HV2.out.below hW)
  go_wp2_with (at_mapUpdate; refine wpList_layD HR3.out HN.out k hk _ _ HV3.out rfl _ _ _ rfl rfl rfl rfl ?_; intro w5 h5 h6; have H5 := Lib.hid h5; have H6 := Lib.hid h6; clear h5 h6)
  go_end0
  exact ⟨rfl, H5.out, ((HW2.out.below hW).dw m).then H6.out⟩
end Go.Proofs.YtegekaocbalndaaGreatDoor
end
