/- several texts in one: disks whose files lie in a set of blocks (printed by gen_gfiles.py)., Sync, of a set of blocks (printed by gen_gfiles.py)., Append, of a set of blocks (printed by gen_gfiles.py)., Commit, of a set of blocks (printed by gen_gfiles.py)., a log on its disk, beside a slice that the law appends to. -/
import Derived.Test.YtdmodhcbcpmadaaMm
import Derived.Test.YtdmodhcbcpmadaaMo
import Derived.Test.YtdmodhcbcpmadaaMu
import Derived.Test.YtdmodhcbcpmadaaNb
import Derived.Test.YtdmodhcbcpmadaaMz
import Derived.Test.YtdmodhcbcpmadaaMg9
section
set_option linter.unusedSimpArgs false
set_option linter.unusedVariables false
namespace Go.Proofs.Ytdmodhcbcpmadaa
open Go.RowKit

/-- a file's bytes lie in a block of G. -/
def GvV (G : Nat → Prop) (v : Value) : Prop := ∀ A n c s t, v = .agg #[.slice A n c, s, t] → ∀ x, A = some x → G x.block
theorem GvV.mk {G : Nat → Prop} {A : Option Addr} {n c : Nat} {s t : Value} (h : ∀ x, A = some x → G x.block) : GvV G (.agg #[.slice A n c, s, t]) := by
  intro A' n' c' s' t' e
  injection e with e
  injection e with e
  injection e with e1 e2
  injection e1 with e1
  subst e1
  exact h
theorem GvV.of {G : Nat → Prop} {A : Option Addr} {n c : Nat} {s t : Value} (h : GvV G (.agg #[.slice A n c, s, t])) : ∀ x, A = some x → G x.block := h A n c s t rfl
theorem GvV.mono {G H : Nat → Prop} {v : Value} (h : GvV G v) (hGH : ∀ b, G b → H b) : GvV H v := fun A n c s t e x hx => hGH _ (h A n c s t e x hx)
def InG (G : Nat → Prop) (w : World) (b : Nat) : Prop := G b ∧ b < w.heap.size
theorem InG.mono {G : Nat → Prop} {w w' : World} {b : Nat} (h : InG G w b) (hs : w.heap.size ≤ w'.heap.size) : InG G w' b := ⟨h.1, Nat.lt_of_lt_of_le h.2 hs⟩
def FileG (G : Nat → Prop) (w : World) (v : Value) (f : Fl) : Prop := FileV w v f ∧ GvV (InG G w) v
structure RawG (G : Nat → Prop) (w : World) (p m n : Nat) (left : Int) (writes : Nat) (fs : Nl Fl) : Prop where
  own : w.heap[p]? = some (dcells n m left writes)
  files : ∃ vs, MapN Try.prog 9 w m vs ∧ Alike (FileG G w) vs fs
  new : ∀ b, w.heap.size ≤ b → G b
structure DiskG (G : Nat → Prop) (w : World) (p m : Nat) (d : Dk) : Prop where
  own : w.heap[p]? = some (.cells #[.int .i64 d.size, .map (some m), .int .i64 d.left, .int .i64 d.writes] 55)
  ok : d.Ok
  files : ∃ vs, MapN Try.prog 9 w m vs ∧ Alike (FileG G w) vs d.fs
  new : ∀ b, w.heap.size ≤ b → G b
section
variable {G : Nat → Prop} {w w' : World} {p m n : Nat} {left : Int} {writes : Nat} {fs : Nl Fl} {d : Dk}
theorem RawG.to (h : RawG G w p m n left writes fs) : Raw w p m n left writes fs := by
  obtain ⟨vs, h1, h2⟩ := h.files
  exact ⟨h.own, vs, h1, h2.mono fun v f hv => hv.1⟩
theorem DiskG.to (h : DiskG G w p m d) : DiskAt w p m d := by
  obtain ⟨vs, h1, h2⟩ := h.files
  exact ⟨h.own, h.ok, vs, h1, h2.mono fun v f hv => hv.1⟩
theorem DiskG.raw (h : DiskG G w p m d) : RawG G w p m d.size d.left d.writes d.fs := ⟨h.own, h.files, h.new⟩
theorem RawG.disk (h : RawG G w p m n left writes fs) (hok : (Dk.mk n fs left writes).Ok) : DiskG G w p m ⟨n, fs, left, writes⟩ := ⟨h.own, hok, h.files, h.new⟩
theorem RawG.lt (h : RawG G w p m n left writes fs) : p < w.heap.size := h.to.lt
theorem DiskG.lt (h : DiskG G w p m d) : p < w.heap.size := h.to.lt
theorem DiskG.ltm (h : DiskG G w p m d) : m < w.heap.size := h.to.ltm
theorem RawG.below (h : RawG G w p m n left writes fs) (hb : Below w.heap.size w w') : RawG G w' p m n left writes fs := by
  obtain ⟨vs, h1, h2⟩ := h.files
  exact ⟨(hb.block p h.lt).trans h.own, ⟨vs, h1.at (hb.block m h.to.ltm), h2.mono fun v f hv => ⟨hv.1.below hb, hv.2.mono fun b h => h.mono hb.size⟩⟩, fun b hb2 => h.new b (Nat.le_trans hb.size hb2)⟩
theorem DiskG.below (h : DiskG G w p m d) (hb : Below w.heap.size w w') : DiskG G w' p m d := (h.raw.below hb).disk h.ok
theorem RawG.set (h : RawG G w p m n left writes fs) {g i : Nat} {c : Value} (hc : w.cell? ⟨g, i, none⟩ = some c) (h8 : noU8 c = true) (hp : g ≠ p) (v : Value) : RawG G (w.setCell ⟨g, i, none⟩ v) p m n left writes fs := by
  obtain ⟨vs, h1, h2⟩ := h.files
  have hm := h.to.no_map hc
  refine ⟨(Below.heap_setCell _ _ _ _ (by simpa using hp.symm)).trans h.own, ⟨vs, h1.at (Below.heap_setCell _ _ _ _ (by simpa using hm.symm)), h2.mono fun v f hv => ⟨hv.1.set hc h8, hv.2.mono fun b h => h.mono (by rw [World.size_setCell]; exact Nat.le_refl _)⟩⟩, fun b hb => h.new b (by rwa [World.size_setCell] at hb)⟩
theorem DiskG.set (h : DiskG G w p m d) {g i : Nat} {c : Value} (hc : w.cell? ⟨g, i, none⟩ = some c) (h8 : noU8 c = true) (hp : g ≠ p) (v : Value) : DiskG G (w.setCell ⟨g, i, none⟩ v) p m d := (h.raw.set hc h8 hp v).disk h.ok
theorem RawG.lay (h : RawG G w p m n left writes fs) (hn : fs.length ≤ 1000000) (k : Nm) (hk : k.length ≤ 9223372036854775807) (v : Value) (f : Fl) (hv : FileV w v f) (hg : GvV (InG G w) v) :
    ∃ w', (Instr.mapUpdate UM (.map (some m)) (.string (str k)) v).run Try.prog w = .ok () w' ∧ RawG G w' p m n left writes (nput fs k f) ∧ w.grownBy w' (some m) := by
  obtain ⟨vs, h1, h2⟩ := h.files
  obtain ⟨w', h3, h4, h5⟩ := h1.store (Maps.string_keyed Try.underlying9) Try.underlying53 (by rw [h2.length]; have : maxLen = 9223372036854775807 := rfl; omega) (keyStr k hk) (val := v)
  have hg2 := h5.grown
  exact ⟨w', h3, ⟨(hg2.block p h.lt (by simpa using h.to.ne.symm)).trans h.own, ⟨_, h4, Alike.put (h2.mono fun v f hv => ⟨h.to.fileV hg2 hv.1, hv.2.mono fun b h => h.mono hg2.size⟩) k ⟨h.to.fileV hg2 hv, hg.mono fun b h => h.mono hg2.size⟩⟩, fun b hb => h.new b (Nat.le_trans hg2.size hb)⟩, hg2⟩
theorem wpList_layG {ops : Array Oper} {rest : List Oper} {o : Oper} {a : Act} {Q : Exit → Act → World → Prop} (h : RawG G w p m n left writes fs) (hn : fs.length ≤ 1000000) (k : Nm) (hk : k.length ≤ 9223372036854775807) (v : Value) (f : Fl) (hv : FileV w v f) (hgv : GvV (InG G w) v)
    (hg : o.guard = none) (mo x vo : Operand) (hop : o.op = Op.mapUpdate UM mo x vo) (hm : a.eval mo = .map (some m)) (hx : a.eval x = .string (str k)) (hvo : a.eval vo = v)
    (hK : ∀ w', RawG G w' p m n left writes (nput fs k f) → w.grownBy w' (some m) → wpList Try.prog ops Q rest (a.put o.dst undef) w') :
    wpList Try.prog ops Q (o :: rest) a w := by
  refine wpList_plain hg fun K' hK' => ?_
  obtain ⟨w', hrun, r1, r2⟩ := h.lay hn k hk v f hv hgv
  unfold Oper.wp
  simp [execOp, hop, hm, hx, hvo, hrun, Result.andThen]
  exact hK' _ _ (hK w' r1 r2)
theorem raw_ofG {w1 : World} (h : DiskG G w p m d) (ho : w1.heap[p]? = some (dcells d.size m (if 0 < d.left then d.left - 1 else d.left) (d.writes + 1))) (how : Ow w w1 p) : RawG G w1 p m d.size (if 0 < d.left then d.left - 1 else d.left) (d.writes + 1) d.fs := by
  obtain ⟨vs, h1, h2⟩ := h.files
  exact ⟨ho, ⟨vs, h1.at (how.block m h.ltm h.to.ne), h2.mono fun v f hv => ⟨h.to.fileV (how.dw m) hv.1, hv.2.mono fun b h => h.mono how.size⟩⟩, fun b hb => h.new b (Nat.le_trans how.size hb)⟩
theorem Alike.lookG {vs : Nl Value} {fs : Nl Fl} (h : Alike (FileG G w) vs fs) (k : Nm) : GvV (InG G w) ((nget vs k).getD zfile) := by
  rcases h.get k with ⟨h1, h2⟩ | ⟨a, b, h1, h2, h3⟩
  · rw [h1]
    exact GvV.mk fun x hx => by cases hx
  · rw [h1]
    exact h3.2
theorem look_fileG (h : DiskG G w p m d) (k : Nm) (hk : k.length ≤ 9223372036854775807) : ∃ A cap, FileV w (.agg #[.slice A (d.file k).b.length cap, .int .i64 (d.file k).safe, .bool (d.file k).kept]) (d.file k) ∧
    (∀ W, W.heap[m]? = w.heap[m]? → (Instr.lookup UM (.map (some m)) (.string (str k)) true).run Try.prog W = .ok (.tuple #[.agg #[.slice A (d.file k).b.length cap, .int .i64 (d.file k).safe, .bool (d.file k).kept], .bool (d.has k)]) W) ∧
    (∀ W, W.heap[m]? = w.heap[m]? → (Instr.lookup UM (.map (some m)) (.string (str k)) false).run Try.prog W = .ok (.agg #[.slice A (d.file k).b.length cap, .int .i64 (d.file k).safe, .bool (d.file k).kept]) W) ∧
    Bs w w.heap.size A (d.file k).b ∧ (A = none → (d.file k).b = []) ∧ (d.file k).b.length ≤ cap ∧ ∀ x, A = some x → InG G w x.block := by
  obtain ⟨vs, h1, h2⟩ := h.files
  obtain ⟨h3, h4⟩ := (h2.mono fun v f hv => hv.1 : Alike (FileV w) vs d.fs).look k
  have hgv := Alike.lookG h2 k
  obtain ⟨A, cap, h5, h6, h7, h8, h9, h10⟩ := h4
  rw [show (nget d.fs k).getD fl0 = d.file k from rfl] at h5
  rw [h5] at hgv
  refine ⟨A, cap, ⟨A, cap, rfl, h6, h7, h8, h9, h10⟩, fun W hW => ?_, fun W hW => ?_, h6, h10, h7, hgv.of⟩
  · have := (h1.at hW).look_ok (Maps.string_keyed Try.underlying9) Try.underlying53 (Try.zeroValue77 W) (keyStr k hk)
    rw [this]
    change (Result.ok (Value.tuple #[(nget vs k).getD zfile, Value.bool (nget vs k).isSome]) W) = _
    rw [h5, h3]
    try rfl
  · have := (h1.at hW).look (Maps.string_keyed Try.underlying9) Try.underlying53 (Try.zeroValue77 W) (keyStr k hk)
    rw [this]
    change (Result.ok ((nget vs k).getD zfile) W) = _
    rw [h5]
    try rfl
end
/-- a write to a block that holds no file. -/
theorem DiskG.grown {G G' : Nat → Prop} {w w' : World} {p m : Nat} {d : Dk} {r : Option Nat} (h : DiskG G w p m d) (hg : w.grownBy w' r) (hp : r ≠ some p) (hm : r ≠ some m) (hr : ∀ b, G b → r ≠ some b) (hG : ∀ b, G b → b < w.heap.size → G' b) (hn : ∀ b, w'.heap.size ≤ b → G' b) : DiskG G' w' p m d := by
  obtain ⟨vs, h1, h2⟩ := h.files
  refine ⟨(hg.block p h.lt hp.symm).trans h.own, h.ok, ⟨vs, h1.at (hg.block m h.ltm hm.symm), h2.mono fun v f hv => ?_⟩, hn⟩
  obtain ⟨⟨A, cap, rfl, h4, h5⟩, hgv⟩ := hv
  refine ⟨⟨A, cap, rfl, fun j hj => ?_, h5⟩, GvV.mk fun x hx => ⟨hG _ (hgv.of x hx).1 (hgv.of x hx).2, Nat.lt_of_lt_of_le (hgv.of x hx).2 hg.size⟩⟩
  obtain ⟨b, off, e, hb, hc⟩ := h4 j hj
  have hGb := (hgv.of _ e).1
  exact ⟨b, off, e, Nat.lt_of_lt_of_le hb hg.size, (World.cell?_of_block (hg.block b hb (hr b hGb).symm)).trans hc⟩
theorem own_from {w : World} {b e sz n : Nat} {A : Option Addr} {c : Nat} {xs : List Value} (h : w.ownsRow b e sz (.slice A n c) n xs) : ∀ x, A = some x → b ≤ x.block ∧ x.block < w.heap.size := by
  intro x hx
  subst hx
  rcases h.2 with ⟨h1, _⟩ | ⟨g, cap', cur, e1, hge, hg1, _⟩
  · cases h1
  · injection e1 with e1 _ _
    injection e1 with e1
    subst e1
    exact ⟨hge, lt_blk hg1⟩
def ClG (G : Nat → Prop) (w : World) (g p m n : Nat) (left : Int) (writes : Nat) (fs : Nl Fl) (e : Ending) (w' : World) : Prop := e = .returned (.tuple #[]) ∧ RawG G w' p m n left writes fs ∧ Dw w w' g m
def DiskPG (G : Nat → Prop) (w : World) (p m : Nat) (r : Dk × Nat) (e : Ending) (w' : World) : Prop := e = .returned (.int .i64 r.2) ∧ DiskG G w' p m r.1 ∧ Dw w w' p m
set_option maxRecDepth 100000 in
set_option maxHeartbeats 2000000 in
theorem sync1_g {G : Nat → Prop} {w : World} {p m n : Nat} {left : Int} {writes : Nat} {fs : Nl Fl} (h : RawG G w p m n left writes fs) (hn : fs.length ≤ 1000000) (k : Nm) (hk : k.length ≤ 9223372036854775807) (gf gd gn : Nat) (hgp : gf ≠ p) (A : Option Addr) (len cap : Nat) (f : Fl) (hl : len = f.b.length)
    (hf : w.heap[gf]? = some (.cells #[.slice A len cap, .int .i64 f.safe, .bool f.kept] 77 (0, 0))) (hv : FileV w (.agg #[.slice A len cap, .int .i64 len, .bool true]) ⟨f.b, len, true⟩)
    (hga : ∀ x, A = some x → InG G w x.block)
    (hd : w.cell? ⟨gd, 0, none⟩ = some (.pointer (some ⟨p, 0, none⟩))) (hs : w.cell? ⟨gn, 0, none⟩ = some (.string (str k))) (hgd : gd ≠ gf) (hgn : gn ≠ gf) :
    Calls Try.prog 60 #[.pointer (some ⟨gf, 0, none⟩), .pointer (some ⟨gd, 0, none⟩), .pointer (some ⟨gn, 0, none⟩)] w (ClG G w gf p m n left writes (nput fs k ⟨f.b, len, true⟩)) := by
  have c1 := cell_blk h.own 1
  simp only [List.getElem?_toArray, List.getElem?_cons_succ, List.getElem?_cons_zero] at c1
  have f0 := cell_blk hf 0
  have f1 := cell_blk hf 1
  have f2 := cell_blk hf 2
  simp only [List.getElem?_toArray, List.getElem?_cons_succ, List.getElem?_cons_zero] at f0 f1 f2
  have fz := fun i => free_blk hf i
  have HGA := Lib.hid hga
  clear hga
  have HF := Lib.hid hf; have HV := Lib.hid hv; have HR := Lib.hid h; have HN := Lib.hid hn
  have f1' := f1; have f2' := f2
  clear hf hv h hn hl
  go_enter Try.func60, Try.ntmps60
  go_upto_region 1 with (fail)
  have HR2 := Lib.hid ((HR.out.set f1 rfl hgp (.int .i64 len)).set (show (w.setCell ⟨gf, 1, none⟩ (.int .i64 len)).cell? ⟨gf, 2, none⟩ = some (.bool f.kept) from (cell_set (by simp)).trans f2) rfl hgp (.bool true))
  have HV2 := Lib.hid ((HV.out.set (u := .int .i64 len) f1 rfl).set (u := .bool true) (show (w.setCell ⟨gf, 1, none⟩ (.int .i64 len)).cell? ⟨gf, 2, none⟩ = some (.bool f.kept) from (cell_set (by simp)).trans f2) rfl)
  have HF2 := Lib.hid (set_blk (set_blk HF.out 1 (.int .i64 len)) 2 (.bool true))
  have HW2 := Lib.hid (((Ow.refl w gf).set 1 (.int .i64 len)).set 2 (.bool true))
  have d2 : ((w.setCell ⟨gf, 1, none⟩ (.int .i64 len)).setCell ⟨gf, 2, none⟩ (.bool true)).cell? ⟨gd, 0, none⟩ = some (.pointer (some ⟨p, 0, none⟩)) := (cell_set (by simp [hgd])).trans ((cell_set (by simp [hgd])).trans hd)
  have n2 : ((w.setCell ⟨gf, 1, none⟩ (.int .i64 len)).setCell ⟨gf, 2, none⟩ (.bool true)).cell? ⟨gn, 0, none⟩ = some (.string (str k)) := (cell_set (by simp [hgn])).trans ((cell_set (by simp [hgn])).trans hs)
  generalize (w.setCell ⟨gf, 1, none⟩ (.int .i64 len)).setCell ⟨gf, 2, none⟩ (.bool true) = W2 at *
  clear f0 f1 f2 f1' f2' hd hs c1 fz
  have HC : Hid (∀ W, Below W2.heap.size W2 W → W.cell? ⟨gd, 0, none⟩ = some (.pointer (some ⟨p, 0, none⟩)) ∧ W.cell? ⟨gn, 0, none⟩ = some (.string (str k)) ∧ W.cell? ⟨p, 1, none⟩ = some (.map (some m)) ∧ W.cell? ⟨gf, 0, none⟩ = some (.slice A len cap) ∧ W.cell? ⟨gf, 1, none⟩ = some (.int .i64 len) ∧ W.cell? ⟨gf, 2, none⟩ = some (.bool true)) := Lib.hid fun W h => by
    have a1 := cell_blk ((h.block _ (lt_blk HF2.out)).trans HF2.out)
    have a2 := cell_blk ((h.block _ HR2.out.lt).trans HR2.out.own) 1
    exact ⟨(h.cell (p := ⟨gd, 0, none⟩) (cell_lt d2)).trans d2, (h.cell (p := ⟨gn, 0, none⟩) (cell_lt n2)).trans n2, a2, a1 0, a1 1, a1 2⟩
  clear d2 n2
  apply wp_region_relH (H := []) 6 [(Sum.inl _ : TT), (Sum.inl _ : TT), (Sum.inl _ : TT), (Sum.inl _ : TT), (Sum.inl _ : TT), (Sum.inl _ : TT)] (by kernel_rfl) (by kernel_rfl) (fun _ _ _ _ _ h => h) rfl
  simp only [List.take_succ_cons, List.take_zero, List.drop_succ_cons, List.drop_zero]
  iterate 6 (apply rel_isS; (intro W hW hf; obtain ⟨x1, x2, x3, x4, x5, x6⟩ := HC.out W hW; go_simp; first | exact ⟨StayS.refl _ _, rfl⟩ | rfl); simp only [Act.put, List.setIfInBounds_toArray, List.set_cons_succ, List.set_cons_zero])
  refine rel_endS ?_
  intro W hW hf
  try simp only [Act.put, List.setIfInBounds_toArray, List.set_cons_succ, List.set_cons_zero]
  have HR3 := Lib.hid (HR2.out.below hW)
  have HV3 := Lib.hid (HV2.out.below hW)
  go_wp2_with (at_mapUpdate; refine wpList_layG HR3.out HN.out k hk _ _ HV3.out (GvV.mk fun x hx => (HGA.out x hx).mono (Nat.le_trans HW2.out.size hW.size)) rfl _ _ _ rfl rfl rfl rfl ?_; intro w5 h5 h6; have H5 := Lib.hid h5; have H6 := Lib.hid h6; clear h5 h6)
  go_end0
  exact ⟨rfl, H5.out, ((HW2.out.below hW).dw m).then H6.out⟩
set_option maxRecDepth 100000 in
set_option maxHeartbeats 2000000 in
theorem append1_g {G : Nat → Prop} {w : World} {p m n : Nat} {left : Int} {writes : Nat} {fs : Nl Fl} (h : RawG G w p m n left writes fs) (hn : fs.length ≤ 1000000) (k : Nm) (hk : k.length ≤ 9223372036854775807) (gf gb gd gn : Nat) (hgp : gf ≠ p) (A : Option Addr) (len cap : Nat) (f : Fl) (hl : len = f.b.length)
    (hf : w.heap[gf]? = some (.cells #[.slice A len cap, .int .i64 f.safe, .bool f.kept] 77 (0, 0))) (hA : Bs w w.heap.size A f.b) (hA0 : A = none → f.b = [])
    (b : List UInt8) (len2 capb : Nat) (C : Option Addr) (hl2 : len2 = b.length) (hC : Bs w w.heap.size C b) (hC0 : C = none → b = []) (hlen : len + len2 ≤ 67108864) (hsafe : f.safe ≤ f.b.length)
    (hb : w.cell? ⟨gb, 0, none⟩ = some (.slice C len2 capb))
    (hd : w.cell? ⟨gd, 0, none⟩ = some (.pointer (some ⟨p, 0, none⟩))) (hs : w.cell? ⟨gn, 0, none⟩ = some (.string (str k))) (hgd : gd ≠ gf) (hgn : gn ≠ gf) :
    Calls Try.prog 48 #[.pointer (some ⟨gf, 0, none⟩), .pointer (some ⟨gb, 0, none⟩), .pointer (some ⟨gd, 0, none⟩), .pointer (some ⟨gn, 0, none⟩)] w (ClG G w gf p m n left writes (nput fs k ⟨f.b ++ b, f.safe, f.kept⟩)) := by
  have f0 := cell_blk hf 0
  simp only [List.getElem?_toArray, List.getElem?_cons_succ, List.getElem?_cons_zero] at f0
  have HF := Lib.hid hf; have HR := Lib.hid h; have HN := Lib.hid hn; have HA := Lib.hid hA; have HC := Lib.hid hC; have HA0 := Lib.hid hA0; have HC0 := Lib.hid hC0; have HL := Lib.hid hl; have HL2 := Lib.hid hl2; have HD := Lib.hid hd; have HS := Lib.hid hs
  have HSF := Lib.hid hsafe; have HLEN := Lib.hid hlen
  clear hf h hn hA hC hA0 hC0 hl hl2 hd hs hsafe
  go_enter Try.func48, Try.ntmps48
  go_wp2_with fail
  obtain ⟨b0_, hb_⟩ := boxes1 w (.cells #[.slice A len cap, .slice C len2 capb] 29)
  generalize w.alloc (.cells #[.slice A len cap, .slice C len2 capb] 29) = w1 at *
  have T0 : Hid (∀ W, Below w1.heap.size w1 W → W.cell? ⟨w.heap.size, 0, none⟩ = some (.slice A len cap) ∧ W.cell? ⟨w.heap.size, 1, none⟩ = some (.slice C len2 capb)) := Lib.hid (fun W hW => by have e := (hW.block _ (lt_blk b0_)).trans b0_; exact ⟨by rw [cell_blk e]; rfl, by rw [cell_blk e]; rfl⟩)
  have HB := Lib.hid hb_
  clear hb_ b0_
  have t0 := T0.out w1 (Below.refl _ _)
  have HCC := Lib.hid (concat_at w.heap.size f.b b len len2 HL.out HL2.out (by omega) (by omega) A C cap capb w1 t0.1 t0.2 (cell_lt t0.1) ((HA.out.below HB.out).more HB.out.size) ((HC.out.below HB.out).more HB.out.size) HA0.out HC0.out)
  clear t0 f0
  refine HCC.out.mono ?_
  rintro e w2 ⟨v, rfl, ho, hb2⟩
  obtain ⟨A2, c2, rfl, hrd, hA2, hcap2⟩ := own_rdS ho
  have HGA : Hid (∀ x, A2 = some x → InG G w2 x.block) := Lib.hid fun x hx => ⟨HR.out.new _ (Nat.le_trans HB.out.size (own_from ho x hx).1), (own_from ho x hx).2⟩
  have HB2 := Lib.hid (HB.out.trans (hb2.mono HB.out.size))
  have HBS := Lib.hid hrd.bs
  have HA2 := Lib.hid hA2
  have HCAP := Lib.hid hcap2
  clear ho hb2 hrd hA2 hcap2
  have hf2 := (HB2.out.block gf (lt_blk HF.out)).trans HF.out
  have f0 := cell_blk hf2 0
  simp only [List.getElem?_toArray, List.getElem?_cons_succ, List.getElem?_cons_zero] at f0
  have fz := fun i => free_blk hf2 i
  have HF2 := Lib.hid hf2
  clear hf2
  have f0' := f0
  go_upto_region 1 with (fail)
  have HR3 := Lib.hid ((HR.out.below HB2.out).set f0 rfl hgp (.slice A2 (len + len2) c2))
  have HF3 := Lib.hid (set_blk HF2.out 0 (.slice A2 (len + len2) c2))
  have HBS3 := Lib.hid (HBS.out.set f0 rfl (v := .slice A2 (len + len2) c2))
  have HW3 := Lib.hid ((((Ow.refl w gf).below HB2.out)).set 0 (.slice A2 (len + len2) c2))
  have d2 : (w2.setCell ⟨gf, 0, none⟩ (.slice A2 (len + len2) c2)).cell? ⟨gd, 0, none⟩ = some (.pointer (some ⟨p, 0, none⟩)) := (cell_set (by simp [hgd])).trans ((HB2.out.cell (p := ⟨gd, 0, none⟩) (cell_lt HD.out)).trans HD.out)
  have n2 : (w2.setCell ⟨gf, 0, none⟩ (.slice A2 (len + len2) c2)).cell? ⟨gn, 0, none⟩ = some (.string (str k)) := (cell_set (by simp [hgn])).trans ((HB2.out.cell (p := ⟨gn, 0, none⟩) (cell_lt HS.out)).trans HS.out)
  have hsz : (w2.setCell ⟨gf, 0, none⟩ (.slice A2 (len + len2) c2)).heap.size = w2.heap.size := World.size_setCell _ _ _
  generalize w2.setCell ⟨gf, 0, none⟩ (.slice A2 (len + len2) c2) = W2 at *
  have HV3 : Hid (FileV W2 (.agg #[.slice A2 (len + len2 : Nat) c2, .int .i64 f.safe, .bool f.kept]) ⟨f.b ++ b, f.safe, f.kept⟩) := Lib.hid ⟨A2, c2, by simp [HL.out, HL2.out], by rw [hsz]; exact HBS3.out, by simp [← HL.out, ← HL2.out]; exact HCAP.out, by have := HSF.out; simp; omega, by have h1 := HLEN.out; have h2 := HL.out; have h3 := HL2.out; simp only [List.length_append]; omega, fun h => by have h1 := HA2.out h; have := HL.out; have := HL2.out; exact List.eq_nil_of_length_eq_zero (by rw [List.length_append]; omega)⟩
  have HSZ := Lib.hid hsz
  clear f0 f0' fz hsz
  have HC : Hid (∀ W, Below W2.heap.size W2 W → W.cell? ⟨gd, 0, none⟩ = some (.pointer (some ⟨p, 0, none⟩)) ∧ W.cell? ⟨gn, 0, none⟩ = some (.string (str k)) ∧ W.cell? ⟨p, 1, none⟩ = some (.map (some m)) ∧ W.cell? ⟨gf, 0, none⟩ = some (.slice A2 (len + len2) c2) ∧ W.cell? ⟨gf, 1, none⟩ = some (.int .i64 f.safe) ∧ W.cell? ⟨gf, 2, none⟩ = some (.bool f.kept)) := Lib.hid fun W h => by
    have a1 := cell_blk ((h.block _ (lt_blk HF3.out)).trans HF3.out)
    have a2 := cell_blk ((h.block _ HR3.out.lt).trans HR3.out.own) 1
    exact ⟨(h.cell (p := ⟨gd, 0, none⟩) (cell_lt d2)).trans d2, (h.cell (p := ⟨gn, 0, none⟩) (cell_lt n2)).trans n2, a2, a1 0, a1 1, a1 2⟩
  clear d2 n2
  apply wp_region_relH (H := []) 6 [(Sum.inl _ : TT), (Sum.inl _ : TT), (Sum.inl _ : TT), (Sum.inl _ : TT), (Sum.inl _ : TT), (Sum.inl _ : TT)] (by kernel_rfl) (by kernel_rfl) (fun _ _ _ _ _ h => h) rfl
  simp only [List.take_succ_cons, List.take_zero, List.drop_succ_cons, List.drop_zero]
  iterate 6 (apply rel_isS; (intro W hW hf; obtain ⟨x1, x2, x3, x4, x5, x6⟩ := HC.out W hW; go_simp; first | exact ⟨StayS.refl _ _, rfl⟩ | rfl); simp only [Act.put, List.setIfInBounds_toArray, List.set_cons_succ, List.set_cons_zero])
  refine rel_endS ?_
  intro W hW hf
  try simp only [Act.put, List.setIfInBounds_toArray, List.set_cons_succ, List.set_cons_zero]
  have HR4 := Lib.hid (HR3.out.below hW)
  have HV4 := Lib.hid (HV3.out.below hW)
  go_wp2_with (at_mapUpdate; refine wpList_layG HR4.out HN.out k hk _ _ HV4.out (GvV.mk fun x hx => (HGA.out x hx).mono (by rw [← HSZ.out]; exact hW.size)) rfl _ _ _ rfl rfl rfl rfl ?_; intro w5 h5 h6; have H5 := Lib.hid h5; have H6 := Lib.hid h6; clear h5 h6)
  go_end0
  exact ⟨rfl, H5.out, ((HW3.out.below hW).dw m).then H6.out⟩
end Go.Proofs.Ytdmodhcbcpmadaa
end

section
set_option linter.unusedSimpArgs false
set_option linter.unusedVariables false
namespace Go.Proofs.Ytdmodhcbcpmadaa
open Go.RowKit

set_option maxRecDepth 100000 in
set_option maxHeartbeats 2000000 in
theorem sync_g {G : Nat → Prop} {w : World} {p m : Nat} {d : Dk} (h : DiskG G w p m d) (hw : d.writes < 1000000000000) (k : Nm) (hk : k.length ≤ 9223372036854775807) :
    Calls Try.prog 17 #[.pointer (some ⟨p, 0, none⟩), .string (str k)] w (DiskPG G w p m (d.sync k)) := by
  have H := Lib.hid h
  clear h
  go_enter Try.func17, Try.ntmps17
  go_wp2_with fail
  obtain ⟨b0_, b1_, hb_⟩ := boxes2 w (.cells #[.pointer (some ⟨p, 0, none⟩)] 22) (.cells #[.string (str k)] 9)
  generalize (w.alloc (.cells #[.pointer (some ⟨p, 0, none⟩)] 22)).alloc (.cells #[.string (str k)] 9) = w0 at *
  have T0b : Hid (∀ W, Below w0.heap.size w0 W → W.heap[w.heap.size]? = some (.cells #[.pointer (some ⟨p, 0, none⟩)] 22 (0, 0))) := Lib.hid (fun W hW => (hW.block _ (lt_blk b0_)).trans b0_)
  have T0 : Hid (∀ W, Below w0.heap.size w0 W → W.cell? ⟨w.heap.size, 0, none⟩ = some (.pointer (some ⟨p, 0, none⟩))) := Lib.hid (fun W hW => by have e := (hW.block _ (lt_blk b0_)).trans b0_; exact by rw [cell_blk e]; rfl)
  have T1b : Hid (∀ W, Below w0.heap.size w0 W → W.heap[w.heap.size + 1]? = some (.cells #[.string (str k)] 9 (0, 0))) := Lib.hid (fun W hW => (hW.block _ (lt_blk b1_)).trans b1_)
  have T1 : Hid (∀ W, Below w0.heap.size w0 W → W.cell? ⟨w.heap.size + 1, 0, none⟩ = some (.string (str k))) := Lib.hid (fun W hW => by have e := (hW.block _ (lt_blk b1_)).trans b1_; exact by rw [cell_blk e]; rfl)
  have HB := Lib.hid hb_
  clear hb_ b0_ b1_
  have H0 := Lib.hid (H.out.below HB.out)
  refine (none_at H0.out.to).mono ?_
  rintro e w1 ⟨rfl, rfl⟩
  obtain ⟨A, cap, hv, hl1, hl2, hbs, hA0, hcap, hga⟩ := look_fileG H0.out k hk
  have HV := Lib.hid hv; have HL := Lib.hid hl1; have HBS := Lib.hid hbs; have HA0 := Lib.hid hA0; have HCP := Lib.hid hcap
  have HGA := Lib.hid hga
  clear hv hl1 hl2 hbs hA0 hcap hga
  have x1 := T0.out w1 (Below.refl _ _)
  have x2 := T1.out w1 (Below.refl _ _)
  have x3 := cell_blk H0.out.own 1
  simp only [List.getElem?_toArray, List.getElem?_cons_succ, List.getElem?_cons_zero] at x3
  have y1 := fun o => T0.out (w1.alloc o) (below_alloc w1 o)
  have y2 := fun o => T1.out (w1.alloc o) (below_alloc w1 o)
  have y3 : ∀ o, (w1.alloc o).cell? ⟨p, 1, none⟩ = some (.map (some m)) := fun o => by have := cell_blk (H0.out.below (below_alloc w1 o)).own 1; exact this
  have l1 := HL.out w1.drew rfl
  have l2 := fun o => HL.out (w1.alloc o).drew (Below.heap_alloc _ _ _ H0.out.ltm)
  go_wp2_with fail
  go_region
  obtain ⟨hfb, hbl⟩ := boxes1 w1 (.cells #[.slice A (d.file k).b.length cap, .int .i64 (d.file k).safe, .bool (d.file k).kept] 77)
  have hfb2 : (w1.alloc (.cells #[.slice A (d.file k).b.length cap, .int .i64 (d.file k).safe, .bool (d.file k).kept] 77)).drew.heap[w1.heap.size]? = _ := hfb
  have hbl2 := hbl.drew
  generalize (w1.alloc (.cells #[.slice A (d.file k).b.length cap, .int .i64 (d.file k).safe, .bool (d.file k).kept] 77)).drew = w2 at *
  have HF := Lib.hid hfb2; have HB2 := Lib.hid hbl2
  clear x1 x2 x3 y1 y2 y3 l1 l2 hfb hbl hfb2 hbl2
  have H2 := Lib.hid (H0.out.below HB2.out)
  have x1 := T0.out w2 HB2.out
  have x2 := T1.out w2 HB2.out
  cases hh : d.has k with
  | false =>
    have HE : Hid (d.sync k = (d, 6)) := Lib.hid (by unfold Dk.sync; rw [if_pos hh])
    clear hh
    go_wp2_with fail
    go_ret
    exact ⟨by rw [HE.out]; rfl, by rw [HE.out]; exact H2.out, .of_below (HB.out.trans (HB2.out.mono HB.out.size))⟩
  | true =>
    have HE : Hid (d.sync k = d.wr (nput d.fs k ⟨(d.file k).b, (d.file k).b.length, true⟩)) := Lib.hid (by unfold Dk.sync; rw [if_neg (by rw [hh]; decide)])
    have HO : Hid (d.sync k).1.Ok := Lib.hid (H.out.ok.sync k)
    clear hh
    by_cases h0 : d.left = 0
    · have HW := Lib.hid (fun f => write_off H2.out.to h0 f)
      have HE2 : Hid (d.sync k = (d, 13)) := Lib.hid (by rw [HE.out]; unfold Dk.wr; rw [if_pos h0])
      clear h0
      go_wp2_with fail
      refine (HW.out _).mono ?_
      rintro e w3 ⟨rfl, rfl⟩
      go_wp2_with fail
      go_ret
      exact ⟨by rw [HE2.out]; rfl, by rw [HE2.out]; exact H2.out, .of_below (HB.out.trans (HB2.out.mono HB.out.size))⟩
    · have HE2 : Hid (d.sync k = (d.tick (nput d.fs k ⟨(d.file k).b, (d.file k).b.length, true⟩), 0)) := Lib.hid (by rw [HE.out]; unfold Dk.wr; rw [if_neg h0])
      have HW := Lib.hid (write_on H2.out.to h0 hw 60 (enters_of Try.func60 (by kernel_rfl) rfl) #[.pointer (some ⟨w1.heap.size, 0, none⟩), .pointer (some ⟨w.heap.size, 0, none⟩), .pointer (some ⟨w.heap.size + 1, 0, none⟩)] (fun w' => DiskG G w' p m (d.sync k).1 ∧ Dw w w' p m) (fun w3 h3 h4 => by
        have hgf : w1.heap.size < w2.heap.size := lt_blk HF.out
        have hgp : w1.heap.size ≠ p := by have := H0.out.lt; omega
        have hf := HV.out
        obtain ⟨_, _, e1, _, _, _, hlen, _⟩ := hf
        have hbs := H2.out.to.bs (h4.dw m) (Nat.le_refl _) ((HBS.out.below HB2.out).more HB2.out.size)
        refine (sync1_g (raw_ofG H2.out h3 h4) (by have := H2.out.ok.count; omega) k hk w1.heap.size w.heap.size (w.heap.size + 1) hgp A (d.file k).b.length cap (d.file k) rfl ((h4.block _ hgf hgp).trans HF.out) ⟨A, cap, rfl, hbs.more h4.size, HCP.out, Nat.le_refl _, hlen, HA0.out⟩ (fun x hx => (HGA.out x hx).mono (by have := HB2.out.size; have := h4.size; omega)) ((World.cell?_of_block (h4.block _ (cell_lt x1) (by show w.heap.size ≠ p; have := H.out.lt; omega))).trans x1) ((World.cell?_of_block (h4.block _ (cell_lt x2) (by show w.heap.size + 1 ≠ p; have := H.out.lt; omega))).trans x2) (Nat.ne_of_lt (cell_lt (T0.out w1 (Below.refl _ _)))) (Nat.ne_of_lt (cell_lt (T1.out w1 (Below.refl _ _))))).mono ?_
        rintro e w4 ⟨rfl, h5, h6⟩
        have h7 := HO.out
        rw [HE2.out] at h7 ⊢
        exact ⟨rfl, h5.disk h7, ((Dw.of_below (HB.out.trans (HB2.out.mono HB.out.size))).trans (h4.dw m)).new h6 (by have := HB.out.size; omega)⟩))
      clear h0
      go_wp2_with fail
      refine HW.out.mono ?_
      rintro e w3 ⟨rfl, h5, h6⟩
      have H5 := Lib.hid h5; have H6 := Lib.hid h6
      clear h5 h6
      go_wp2_with fail
      go_ret
      exact ⟨by rw [HE2.out]; rfl, H5.out, H6.out⟩
end Go.Proofs.Ytdmodhcbcpmadaa
end

section
set_option linter.unusedSimpArgs false
set_option linter.unusedVariables false
namespace Go.Proofs.Ytdmodhcbcpmadaa
open Go.RowKit

set_option maxRecDepth 100000 in
set_option maxHeartbeats 2000000 in
theorem append_g {G : Nat → Prop} {w : World} {p m : Nat} {d : Dk} (h : DiskG G w p m d) (hw : d.writes < 1000000000000) (k : Nm) (hk : k.length ≤ 9223372036854775807) (b : List UInt8) (n : Nat) (hn : n = b.length) (hn2 : n ≤ 100000000) (C : Option Addr) (capb : Nat) (hC : Bs w w.heap.size C b) (hC0 : C = none → b = []) :
    Calls Try.prog 14 #[.pointer (some ⟨p, 0, none⟩), .string (str k), .slice C n capb] w (DiskPG G w p m (d.append k b)) := by
  have H := Lib.hid h
  have HN := Lib.hid hn; have HC := Lib.hid hC; have HC0 := Lib.hid hC0
  clear h hn hC hC0
  go_enter Try.func14, Try.ntmps14
  go_wp2_with fail
  obtain ⟨b0_, b1_, b2_, hb_⟩ := boxes3 w (.cells #[.pointer (some ⟨p, 0, none⟩)] 22) (.cells #[.string (str k)] 9) (.cells #[.slice C n capb] 29)
  generalize ((w.alloc (.cells #[.pointer (some ⟨p, 0, none⟩)] 22)).alloc (.cells #[.string (str k)] 9)).alloc (.cells #[.slice C n capb] 29) = w0 at *
  have T0b : Hid (∀ W, Below w0.heap.size w0 W → W.heap[w.heap.size]? = some (.cells #[.pointer (some ⟨p, 0, none⟩)] 22 (0, 0))) := Lib.hid (fun W hW => (hW.block _ (lt_blk b0_)).trans b0_)
  have T0 : Hid (∀ W, Below w0.heap.size w0 W → W.cell? ⟨w.heap.size, 0, none⟩ = some (.pointer (some ⟨p, 0, none⟩))) := Lib.hid (fun W hW => by have e := (hW.block _ (lt_blk b0_)).trans b0_; exact by rw [cell_blk e]; rfl)
  have T1b : Hid (∀ W, Below w0.heap.size w0 W → W.heap[w.heap.size + 1]? = some (.cells #[.string (str k)] 9 (0, 0))) := Lib.hid (fun W hW => (hW.block _ (lt_blk b1_)).trans b1_)
  have T1 : Hid (∀ W, Below w0.heap.size w0 W → W.cell? ⟨w.heap.size + 1, 0, none⟩ = some (.string (str k))) := Lib.hid (fun W hW => by have e := (hW.block _ (lt_blk b1_)).trans b1_; exact by rw [cell_blk e]; rfl)
  have T2b : Hid (∀ W, Below w0.heap.size w0 W → W.heap[w.heap.size + 1 + 1]? = some (.cells #[.slice C n capb] 29 (0, 0))) := Lib.hid (fun W hW => (hW.block _ (lt_blk b2_)).trans b2_)
  have T2 : Hid (∀ W, Below w0.heap.size w0 W → W.cell? ⟨w.heap.size + 1 + 1, 0, none⟩ = some (.slice C n capb)) := Lib.hid (fun W hW => by have e := (hW.block _ (lt_blk b2_)).trans b2_; exact by rw [cell_blk e]; rfl)
  have HB := Lib.hid hb_
  clear hb_ b0_ b1_ b2_
  have H0 := Lib.hid (H.out.below HB.out)
  refine (none_at H0.out.to).mono ?_
  rintro e w1 ⟨rfl, rfl⟩
  have x1 := T0.out w1 (Below.refl _ _)
  have xn := T1.out w1 (Below.refl _ _)
  have HNM := Lib.hid (named_any k (by omega) w1)
  go_wp2_with fail
  refine HNM.out.mono ?_
  rintro e wn ⟨rfl, hbn⟩
  have T0n := Lib.hid (fun W (hW : Below wn.heap.size wn W) => T0.out W (hbn.trans (hW.mono hbn.size)))
  have T1n := Lib.hid (fun W (hW : Below wn.heap.size wn W) => T1.out W (hbn.trans (hW.mono hbn.size)))
  have T2n := Lib.hid (fun W (hW : Below wn.heap.size wn W) => T2.out W (hbn.trans (hW.mono hbn.size)))
  have HBn := Lib.hid (HB.out.trans (hbn.mono HB.out.size))
  have H0n := Lib.hid (H0.out.below hbn)
  clear hbn HNM x1 xn HB H0 T0 T1 T2
  cases hnn : nameOk k with
  | false =>
    have HE : Hid (d.append k b = (d, 2)) := Lib.hid (by unfold Dk.append; rw [if_pos hnn])
    clear hnn
    go_wp2_with fail
    go_ret
    exact ⟨by rw [HE.out]; rfl, by rw [HE.out]; exact H0n.out, .of_below HBn.out⟩
  | true =>
    have HNN : Hid (¬ nameOk k = false) := Lib.hid (by rw [hnn]; decide)
    clear hnn
    obtain ⟨A, cap, hv, hl1, hl2, hbs, hA0, hcap, hga⟩ := look_fileG H0n.out k hk
    have HV := Lib.hid hv; have HL := Lib.hid hl1; have HBS := Lib.hid hbs; have HA0 := Lib.hid hA0; have HCP := Lib.hid hcap
    have HGA := Lib.hid hga
    clear hv hl1 hl2 hbs hA0 hcap hga
    have x1 := T0n.out wn (Below.refl _ _)
    have x2 := T1n.out wn (Below.refl _ _)
    have x3 := cell_blk H0n.out.own 1
    simp only [List.getElem?_toArray, List.getElem?_cons_succ, List.getElem?_cons_zero] at x3
    have y1 := fun o => T0n.out (wn.alloc o) (below_alloc wn o)
    have y2 := fun o => T1n.out (wn.alloc o) (below_alloc wn o)
    have y3 : ∀ o, (wn.alloc o).cell? ⟨p, 1, none⟩ = some (.map (some m)) := fun o => by have := cell_blk (H0n.out.below (below_alloc wn o)).own 1; exact this
    have l1 := HL.out wn.drew rfl
    have l2 := fun o => HL.out (wn.alloc o).drew (Below.heap_alloc _ _ _ H0n.out.ltm)
    go_wp2_with fail
    go_region
    obtain ⟨hfb, hbl⟩ := boxes1 wn (.cells #[.slice A (d.file k).b.length cap, .int .i64 (d.file k).safe, .bool (d.file k).kept] 77)
    have hfb2 : (wn.alloc (.cells #[.slice A (d.file k).b.length cap, .int .i64 (d.file k).safe, .bool (d.file k).kept] 77)).drew.heap[wn.heap.size]? = _ := hfb
    have hbl2 := hbl.drew
    generalize (wn.alloc (.cells #[.slice A (d.file k).b.length cap, .int .i64 (d.file k).safe, .bool (d.file k).kept] 77)).drew = w2 at *
    have HF := Lib.hid hfb2; have HB2 := Lib.hid hbl2
    clear x1 x2 x3 y1 y2 y3 l1 l2 hfb hbl hfb2 hbl2
    have H2 := Lib.hid (H0n.out.below HB2.out)
    have HBW := Lib.hid (HBn.out.trans (HB2.out.mono HBn.out.size))
    have x1 := T0n.out w2 HB2.out
    have x2 := T1n.out w2 HB2.out
    have x3 := T2n.out w2 HB2.out
    obtain ⟨vs0, hm0, ha0⟩ := H2.out.to.files
    have hlen0 : vs0.length = d.fs.length := ha0.length
    have HCC : Hid (∀ W, Below w2.heap.size w2 W → W.cell? ⟨w.heap.size, 0, none⟩ = some (.pointer (some ⟨p, 0, none⟩)) ∧ W.cell? ⟨w.heap.size + 1 + 1, 0, none⟩ = some (.slice C n capb) ∧ W.cell? ⟨p, 0, none⟩ = some (.int .i64 d.size) ∧ W.cell? ⟨p, 1, none⟩ = some (.map (some m)) ∧ ∀ ty, (Builtin.len_ #[UM] ty #[.map (some m)]).run Try.prog W = .ok (.int .i64 d.fs.length) W) := Lib.hid fun W h => by
      have a0 := cell_blk ((h.block _ H2.out.lt).trans H2.out.own) 0
      have a1 := cell_blk ((h.block _ H2.out.lt).trans H2.out.own) 1
      refine ⟨T0n.out W (HB2.out.trans (h.mono HB2.out.size)), T2n.out W (HB2.out.trans (h.mono HB2.out.size)), a0, a1, fun ty => ?_⟩
      have h1 := (hm0.at (h.block m hm0.lt)).len Try.underlying53 ty
      rw [kd_size, hlen0] at h1
      exact h1
    have HUS := Lib.hid (fun W (hW : Below w2.heap.size w2 W) => used_at (H2.out.to.below hW))
    clear hm0 ha0 hlen0
    have HFL := Lib.hid (H.out.ok.file k)
    have hsz := H.out.ok.size
    have hus := H.out.ok.used
    have hct := H.out.ok.count
    have hwr : IntKind.i64.wrap ((d.size : Int) - (d.used : Int)) = (d.size : Int) - (d.used : Int) := wi64 _ (by omega) (by omega)
    have HCB : Hid (Bs w2 w2.heap.size C b) := Lib.hid ((HC.out.below HBW.out).more HBW.out.size)
    cases hh : d.has k with
    | true =>
      by_cases hfull : d.size < d.used + n
      · have hq : (d.size : Int) - d.used < n := by omega
        go_upto_region 6 with (fail)
        apply wp_region_relH (H := []) 22 [(Sum.inl _ : TT), (Sum.inl _ : TT), (Sum.inl _ : TT), (Sum.inl _ : TT), (Sum.inl _ : TT), (Sum.inl _ : TT), (Sum.inl _ : TT), (Sum.inl _ : TT), (Sum.inl _ : TT), (Sum.inl _ : TT), (Sum.inl _ : TT), (Sum.inl _ : TT), (Sum.inl _ : TT), (Sum.inl _ : TT), (Sum.inl _ : TT), (Sum.inl _ : TT), (Sum.inl _ : TT), (Sum.inl _ : TT), (Sum.inl _ : TT), (Sum.inl _ : TT), (Sum.inl _ : TT), (Sum.inl _ : TT)] (by kernel_rfl) (by kernel_rfl) (fun _ _ _ _ _ h => h) rfl
        simp only [List.take_succ_cons, List.take_zero, List.drop_succ_cons, List.drop_zero]
        iterate 18 (apply rel_isS; (intro W hW hf; obtain ⟨z1, z2, z3, z4, z5⟩ := HCC.out W hW; go_simp; first | exact ⟨StayS.refl _ _, rfl⟩ | rfl); simp only [Act.put, List.setIfInBounds_toArray, List.set_cons_succ, List.set_cons_zero])
        apply rel_isS
        · intro W hW hf
          exact rel_callS hW (by first | rfl | (go_simp; done) | (go_simp; simp)) (by go_simp <;> first | rfl | exact ⟨rfl, rfl⟩ | exact ⟨rfl, rfl, rfl⟩) ((HUS.out W hW).mono fun e w'' h => ⟨_, h.1, h.2, rfl⟩)
        simp only [Act.put, List.setIfInBounds_toArray, List.set_cons_succ, List.set_cons_zero]
        iterate 3 (apply rel_isS; (intro W hW hf; obtain ⟨z1, z2, z3, z4, z5⟩ := HCC.out W hW; go_simp; first | exact ⟨StayS.refl _ _, rfl⟩ | rfl); simp only [Act.put, List.setIfInBounds_toArray, List.set_cons_succ, List.set_cons_zero])
        refine rel_endS ?_
        intro W hW hf
        try simp only [Act.put, List.setIfInBounds_toArray, List.set_cons_succ, List.set_cons_zero]
        refine wpList_nil ?_
        have HH6 := Lib.hid hW
        clear hW hf
        have H7 := Lib.hid (H2.out.below HH6.out)
        have HB7 := Lib.hid (HB2.out.trans (HH6.out.mono HB2.out.size))
        have HBW7 := Lib.hid (HBn.out.trans (HB7.out.mono HBn.out.size))
        have HF7 := Lib.hid ((HH6.out.block _ (lt_blk HF.out)).trans HF.out)
        have HCB7 := Lib.hid ((HCB.out.below HH6.out).more HH6.out.size)
        have x1 := T0n.out W HB7.out
        have x2 := T1n.out W HB7.out
        have x3 := T2n.out W HB7.out
        have HE : Hid (d.append k b = (d, 8)) := Lib.hid (by unfold Dk.append; rw [if_neg HNN.out, if_pos (.inr (by rw [← HN.out]; exact hfull))])
        go_wp2_with fail
        go_ret
        exact ⟨by rw [HE.out]; rfl, by rw [HE.out]; exact H7.out, .of_below HBW7.out⟩
      · have hq : ¬ (d.size : Int) - d.used < n := by omega
        go_upto_region 6 with (fail)
        apply wp_region_relH (H := []) 22 [(Sum.inl _ : TT), (Sum.inl _ : TT), (Sum.inl _ : TT), (Sum.inl _ : TT), (Sum.inl _ : TT), (Sum.inl _ : TT), (Sum.inl _ : TT), (Sum.inl _ : TT), (Sum.inl _ : TT), (Sum.inl _ : TT), (Sum.inl _ : TT), (Sum.inl _ : TT), (Sum.inl _ : TT), (Sum.inl _ : TT), (Sum.inl _ : TT), (Sum.inl _ : TT), (Sum.inl _ : TT), (Sum.inl _ : TT), (Sum.inl _ : TT), (Sum.inl _ : TT), (Sum.inl _ : TT), (Sum.inl _ : TT)] (by kernel_rfl) (by kernel_rfl) (fun _ _ _ _ _ h => h) rfl
        simp only [List.take_succ_cons, List.take_zero, List.drop_succ_cons, List.drop_zero]
        iterate 18 (apply rel_isS; (intro W hW hf; obtain ⟨z1, z2, z3, z4, z5⟩ := HCC.out W hW; go_simp; first | exact ⟨StayS.refl _ _, rfl⟩ | rfl); simp only [Act.put, List.setIfInBounds_toArray, List.set_cons_succ, List.set_cons_zero])
        apply rel_isS
        · intro W hW hf
          exact rel_callS hW (by first | rfl | (go_simp; done) | (go_simp; simp)) (by go_simp <;> first | rfl | exact ⟨rfl, rfl⟩ | exact ⟨rfl, rfl, rfl⟩) ((HUS.out W hW).mono fun e w'' h => ⟨_, h.1, h.2, rfl⟩)
        simp only [Act.put, List.setIfInBounds_toArray, List.set_cons_succ, List.set_cons_zero]
        iterate 3 (apply rel_isS; (intro W hW hf; obtain ⟨z1, z2, z3, z4, z5⟩ := HCC.out W hW; go_simp; first | exact ⟨StayS.refl _ _, rfl⟩ | rfl); simp only [Act.put, List.setIfInBounds_toArray, List.set_cons_succ, List.set_cons_zero])
        refine rel_endS ?_
        intro W hW hf
        try simp only [Act.put, List.setIfInBounds_toArray, List.set_cons_succ, List.set_cons_zero]
        refine wpList_nil ?_
        have HH6 := Lib.hid hW
        clear hW hf
        have H7 := Lib.hid (H2.out.below HH6.out)
        have HB7 := Lib.hid (HB2.out.trans (HH6.out.mono HB2.out.size))
        have HBW7 := Lib.hid (HBn.out.trans (HB7.out.mono HBn.out.size))
        have HF7 := Lib.hid ((HH6.out.block _ (lt_blk HF.out)).trans HF.out)
        have HCB7 := Lib.hid ((HCB.out.below HH6.out).more HH6.out.size)
        have x1 := T0n.out W HB7.out
        have x2 := T1n.out W HB7.out
        have x3 := T2n.out W HB7.out
        have HE : Hid (d.append k b = d.wr (nput d.fs k ⟨(d.file k).b ++ b, (d.file k).safe, (d.file k).kept⟩)) := Lib.hid (by unfold Dk.append; rw [if_neg HNN.out, if_neg (fun h => by rcases h with h | h; exact absurd h.1 (by rw [hh]; decide); rw [← HN.out] at h; omega)])
        have HQ : Hid (d.used + n ≤ d.size) := Lib.hid (by omega)
        have HO : Hid (d.append k b).1.Ok := Lib.hid (H.out.ok.append k b)
        by_cases h0 : d.left = 0
        · have HW := Lib.hid (fun f => write_off H7.out.to h0 f)
          have HE2 : Hid (d.append k b = (d, 13)) := Lib.hid (by rw [HE.out]; unfold Dk.wr; rw [if_pos h0])
          clear h0
          go_wp2_with fail
          refine (HW.out _).mono ?_
          rintro e w3 ⟨rfl, rfl⟩
          go_wp2_with fail
          go_ret
          exact ⟨by rw [HE2.out]; rfl, by rw [HE2.out]; exact H7.out, .of_below HBW7.out⟩
        · have HE2 : Hid (d.append k b = (d.tick (nput d.fs k ⟨(d.file k).b ++ b, (d.file k).safe, (d.file k).kept⟩), 0)) := Lib.hid (by rw [HE.out]; unfold Dk.wr; rw [if_neg h0])
          have HW := Lib.hid (write_on H7.out.to h0 hw 48 (enters_of Try.func48 (by kernel_rfl) rfl) #[.pointer (some ⟨wn.heap.size, 0, none⟩), .pointer (some ⟨w.heap.size + 1 + 1, 0, none⟩), .pointer (some ⟨w.heap.size, 0, none⟩), .pointer (some ⟨w.heap.size + 1, 0, none⟩)] (fun w' => DiskG G w' p m (d.append k b).1 ∧ Dw w w' p m) (fun w3 h3 h4 => by
            have hgf : wn.heap.size < W.heap.size := lt_blk HF7.out
            have hgp : wn.heap.size ≠ p := by have := H0n.out.lt; omega
            have hf := HV.out
            obtain ⟨_, _, e1, _, _, hsafe, hlen, _⟩ := hf
            have hbs := H7.out.to.bs (h4.dw m) (Nat.le_refl _) ((HBS.out.below HB7.out).more HB7.out.size)
            have hcb := H7.out.to.bs (h4.dw m) (Nat.le_refl _) HCB7.out
            refine (append1_g (raw_ofG H7.out h3 h4) (by have := H7.out.ok.count; omega) k hk wn.heap.size (w.heap.size + 1 + 1) w.heap.size (w.heap.size + 1) hgp A (d.file k).b.length cap (d.file k) rfl ((h4.block _ hgf hgp).trans HF7.out) (hbs.more h4.size) HA0.out b n capb C HN.out (hcb.more h4.size) HC0.out (by have := HQ.out; have := HFL.out.2; omega) hsafe ((World.cell?_of_block (h4.block _ (cell_lt x3) (by show w.heap.size + 1 + 1 ≠ p; have := H.out.lt; omega))).trans x3) ((World.cell?_of_block (h4.block _ (cell_lt x1) (by show w.heap.size ≠ p; have := H.out.lt; omega))).trans x1) ((World.cell?_of_block (h4.block _ (cell_lt x2) (by show w.heap.size + 1 ≠ p; have := H.out.lt; omega))).trans x2) (Nat.ne_of_lt (cell_lt (T0n.out wn (Below.refl _ _)))) (Nat.ne_of_lt (cell_lt (T1n.out wn (Below.refl _ _))))).mono ?_
            rintro e w4 ⟨rfl, h5, h6⟩
            have h7 := HO.out
            rw [HE2.out] at h7 ⊢
            exact ⟨rfl, h5.disk h7, ((Dw.of_below HBW7.out).trans (h4.dw m)).new h6 (by have := HBn.out.size; omega)⟩))
          clear h0
          go_wp2_with fail
          refine HW.out.mono ?_
          rintro e w3 ⟨rfl, h5, h6⟩
          have H5 := Lib.hid h5; have H6 := Lib.hid h6
          clear h5 h6
          go_wp2_with fail
          go_ret
          exact ⟨by rw [HE2.out]; rfl, H5.out, H6.out⟩
    | false =>
      by_cases hmany : 256 ≤ d.fs.length
      · have hm2 : (256 : Int) ≤ d.fs.length := by omega
        go_upto_region 6 with (fail)
        apply wp_region_relH (H := []) 22 [(Sum.inl _ : TT), (Sum.inl _ : TT), (Sum.inl _ : TT), (Sum.inl _ : TT), (Sum.inl _ : TT), (Sum.inl _ : TT), (Sum.inl _ : TT), (Sum.inl _ : TT), (Sum.inl _ : TT), (Sum.inl _ : TT), (Sum.inl _ : TT), (Sum.inl _ : TT), (Sum.inl _ : TT), (Sum.inl _ : TT), (Sum.inl _ : TT), (Sum.inl _ : TT), (Sum.inl _ : TT), (Sum.inl _ : TT), (Sum.inl _ : TT), (Sum.inl _ : TT), (Sum.inl _ : TT), (Sum.inl _ : TT)] (by kernel_rfl) (by kernel_rfl) (fun _ _ _ _ _ h => h) rfl
        simp only [List.take_succ_cons, List.take_zero, List.drop_succ_cons, List.drop_zero]
        iterate 22 (apply rel_isS; (intro W hW hf; obtain ⟨z1, z2, z3, z4, z5⟩ := HCC.out W hW; go_simp; first | exact ⟨StayS.refl _ _, rfl⟩ | rfl); simp only [Act.put, List.setIfInBounds_toArray, List.set_cons_succ, List.set_cons_zero])
        refine rel_endS ?_
        intro W hW hf
        try simp only [Act.put, List.setIfInBounds_toArray, List.set_cons_succ, List.set_cons_zero]
        refine wpList_nil ?_
        have HH6 := Lib.hid hW
        clear hW hf
        have H7 := Lib.hid (H2.out.below HH6.out)
        have HB7 := Lib.hid (HB2.out.trans (HH6.out.mono HB2.out.size))
        have HBW7 := Lib.hid (HBn.out.trans (HB7.out.mono HBn.out.size))
        have HF7 := Lib.hid ((HH6.out.block _ (lt_blk HF.out)).trans HF.out)
        have HCB7 := Lib.hid ((HCB.out.below HH6.out).more HH6.out.size)
        have x1 := T0n.out W HB7.out
        have x2 := T1n.out W HB7.out
        have x3 := T2n.out W HB7.out
        have HE : Hid (d.append k b = (d, 8)) := Lib.hid (by unfold Dk.append; rw [if_neg HNN.out, if_pos (.inl ⟨hh, hmany⟩)])
        go_wp2_with fail
        go_ret
        exact ⟨by rw [HE.out]; rfl, by rw [HE.out]; exact H7.out, .of_below HBW7.out⟩
      · have hm2 : ¬ (256 : Int) ≤ d.fs.length := by omega
        by_cases hfull : d.size < d.used + n
        · have hq : (d.size : Int) - d.used < n := by omega
          go_upto_region 6 with (fail)
          apply wp_region_relH (H := []) 22 [(Sum.inl _ : TT), (Sum.inl _ : TT), (Sum.inl _ : TT), (Sum.inl _ : TT), (Sum.inl _ : TT), (Sum.inl _ : TT), (Sum.inl _ : TT), (Sum.inl _ : TT), (Sum.inl _ : TT), (Sum.inl _ : TT), (Sum.inl _ : TT), (Sum.inl _ : TT), (Sum.inl _ : TT), (Sum.inl _ : TT), (Sum.inl _ : TT), (Sum.inl _ : TT), (Sum.inl _ : TT), (Sum.inl _ : TT), (Sum.inl _ : TT), (Sum.inl _ : TT), (Sum.inl _ : TT), (Sum.inl _ : TT)] (by kernel_rfl) (by kernel_rfl) (fun _ _ _ _ _ h => h) rfl
          simp only [List.take_succ_cons, List.take_zero, List.drop_succ_cons, List.drop_zero]
          iterate 18 (apply rel_isS; (intro W hW hf; obtain ⟨z1, z2, z3, z4, z5⟩ := HCC.out W hW; go_simp; first | exact ⟨StayS.refl _ _, rfl⟩ | rfl); simp only [Act.put, List.setIfInBounds_toArray, List.set_cons_succ, List.set_cons_zero])
          apply rel_isS
          · intro W hW hf
            exact rel_callS hW (by first | rfl | (go_simp; done) | (go_simp; simp)) (by go_simp <;> first | rfl | exact ⟨rfl, rfl⟩ | exact ⟨rfl, rfl, rfl⟩) ((HUS.out W hW).mono fun e w'' h => ⟨_, h.1, h.2, rfl⟩)
          simp only [Act.put, List.setIfInBounds_toArray, List.set_cons_succ, List.set_cons_zero]
          iterate 3 (apply rel_isS; (intro W hW hf; obtain ⟨z1, z2, z3, z4, z5⟩ := HCC.out W hW; go_simp; first | exact ⟨StayS.refl _ _, rfl⟩ | rfl); simp only [Act.put, List.setIfInBounds_toArray, List.set_cons_succ, List.set_cons_zero])
          refine rel_endS ?_
          intro W hW hf
          try simp only [Act.put, List.setIfInBounds_toArray, List.set_cons_succ, List.set_cons_zero]
          refine wpList_nil ?_
          have HH6 := Lib.hid hW
          clear hW hf
          have H7 := Lib.hid (H2.out.below HH6.out)
          have HB7 := Lib.hid (HB2.out.trans (HH6.out.mono HB2.out.size))
          have HBW7 := Lib.hid (HBn.out.trans (HB7.out.mono HBn.out.size))
          have HF7 := Lib.hid ((HH6.out.block _ (lt_blk HF.out)).trans HF.out)
          have HCB7 := Lib.hid ((HCB.out.below HH6.out).more HH6.out.size)
          have x1 := T0n.out W HB7.out
          have x2 := T1n.out W HB7.out
          have x3 := T2n.out W HB7.out
          have HE : Hid (d.append k b = (d, 8)) := Lib.hid (by unfold Dk.append; rw [if_neg HNN.out, if_pos (.inr (by rw [← HN.out]; exact hfull))])
          go_wp2_with fail
          go_ret
          exact ⟨by rw [HE.out]; rfl, by rw [HE.out]; exact H7.out, .of_below HBW7.out⟩
        · have hq : ¬ (d.size : Int) - d.used < n := by omega
          go_upto_region 6 with (fail)
          apply wp_region_relH (H := []) 22 [(Sum.inl _ : TT), (Sum.inl _ : TT), (Sum.inl _ : TT), (Sum.inl _ : TT), (Sum.inl _ : TT), (Sum.inl _ : TT), (Sum.inl _ : TT), (Sum.inl _ : TT), (Sum.inl _ : TT), (Sum.inl _ : TT), (Sum.inl _ : TT), (Sum.inl _ : TT), (Sum.inl _ : TT), (Sum.inl _ : TT), (Sum.inl _ : TT), (Sum.inl _ : TT), (Sum.inl _ : TT), (Sum.inl _ : TT), (Sum.inl _ : TT), (Sum.inl _ : TT), (Sum.inl _ : TT), (Sum.inl _ : TT)] (by kernel_rfl) (by kernel_rfl) (fun _ _ _ _ _ h => h) rfl
          simp only [List.take_succ_cons, List.take_zero, List.drop_succ_cons, List.drop_zero]
          iterate 18 (apply rel_isS; (intro W hW hf; obtain ⟨z1, z2, z3, z4, z5⟩ := HCC.out W hW; go_simp; first | exact ⟨StayS.refl _ _, rfl⟩ | rfl); simp only [Act.put, List.setIfInBounds_toArray, List.set_cons_succ, List.set_cons_zero])
          apply rel_isS
          · intro W hW hf
            exact rel_callS hW (by first | rfl | (go_simp; done) | (go_simp; simp)) (by go_simp <;> first | rfl | exact ⟨rfl, rfl⟩ | exact ⟨rfl, rfl, rfl⟩) ((HUS.out W hW).mono fun e w'' h => ⟨_, h.1, h.2, rfl⟩)
          simp only [Act.put, List.setIfInBounds_toArray, List.set_cons_succ, List.set_cons_zero]
          iterate 3 (apply rel_isS; (intro W hW hf; obtain ⟨z1, z2, z3, z4, z5⟩ := HCC.out W hW; go_simp; first | exact ⟨StayS.refl _ _, rfl⟩ | rfl); simp only [Act.put, List.setIfInBounds_toArray, List.set_cons_succ, List.set_cons_zero])
          refine rel_endS ?_
          intro W hW hf
          try simp only [Act.put, List.setIfInBounds_toArray, List.set_cons_succ, List.set_cons_zero]
          refine wpList_nil ?_
          have HH6 := Lib.hid hW
          clear hW hf
          have H7 := Lib.hid (H2.out.below HH6.out)
          have HB7 := Lib.hid (HB2.out.trans (HH6.out.mono HB2.out.size))
          have HBW7 := Lib.hid (HBn.out.trans (HB7.out.mono HBn.out.size))
          have HF7 := Lib.hid ((HH6.out.block _ (lt_blk HF.out)).trans HF.out)
          have HCB7 := Lib.hid ((HCB.out.below HH6.out).more HH6.out.size)
          have x1 := T0n.out W HB7.out
          have x2 := T1n.out W HB7.out
          have x3 := T2n.out W HB7.out
          have HE : Hid (d.append k b = d.wr (nput d.fs k ⟨(d.file k).b ++ b, (d.file k).safe, (d.file k).kept⟩)) := Lib.hid (by unfold Dk.append; rw [if_neg HNN.out, if_neg (fun h => by rcases h with h | h; omega; rw [← HN.out] at h; omega)])
          have HQ : Hid (d.used + n ≤ d.size) := Lib.hid (by omega)
          have HO : Hid (d.append k b).1.Ok := Lib.hid (H.out.ok.append k b)
          by_cases h0 : d.left = 0
          · have HW := Lib.hid (fun f => write_off H7.out.to h0 f)
            have HE2 : Hid (d.append k b = (d, 13)) := Lib.hid (by rw [HE.out]; unfold Dk.wr; rw [if_pos h0])
            clear h0
            go_wp2_with fail
            refine (HW.out _).mono ?_
            rintro e w3 ⟨rfl, rfl⟩
            go_wp2_with fail
            go_ret
            exact ⟨by rw [HE2.out]; rfl, by rw [HE2.out]; exact H7.out, .of_below HBW7.out⟩
          · have HE2 : Hid (d.append k b = (d.tick (nput d.fs k ⟨(d.file k).b ++ b, (d.file k).safe, (d.file k).kept⟩), 0)) := Lib.hid (by rw [HE.out]; unfold Dk.wr; rw [if_neg h0])
            have HW := Lib.hid (write_on H7.out.to h0 hw 48 (enters_of Try.func48 (by kernel_rfl) rfl) #[.pointer (some ⟨wn.heap.size, 0, none⟩), .pointer (some ⟨w.heap.size + 1 + 1, 0, none⟩), .pointer (some ⟨w.heap.size, 0, none⟩), .pointer (some ⟨w.heap.size + 1, 0, none⟩)] (fun w' => DiskG G w' p m (d.append k b).1 ∧ Dw w w' p m) (fun w3 h3 h4 => by
              have hgf : wn.heap.size < W.heap.size := lt_blk HF7.out
              have hgp : wn.heap.size ≠ p := by have := H0n.out.lt; omega
              have hf := HV.out
              obtain ⟨_, _, e1, _, _, hsafe, hlen, _⟩ := hf
              have hbs := H7.out.to.bs (h4.dw m) (Nat.le_refl _) ((HBS.out.below HB7.out).more HB7.out.size)
              have hcb := H7.out.to.bs (h4.dw m) (Nat.le_refl _) HCB7.out
              refine (append1_g (raw_ofG H7.out h3 h4) (by have := H7.out.ok.count; omega) k hk wn.heap.size (w.heap.size + 1 + 1) w.heap.size (w.heap.size + 1) hgp A (d.file k).b.length cap (d.file k) rfl ((h4.block _ hgf hgp).trans HF7.out) (hbs.more h4.size) HA0.out b n capb C HN.out (hcb.more h4.size) HC0.out (by have := HQ.out; have := HFL.out.2; omega) hsafe ((World.cell?_of_block (h4.block _ (cell_lt x3) (by show w.heap.size + 1 + 1 ≠ p; have := H.out.lt; omega))).trans x3) ((World.cell?_of_block (h4.block _ (cell_lt x1) (by show w.heap.size ≠ p; have := H.out.lt; omega))).trans x1) ((World.cell?_of_block (h4.block _ (cell_lt x2) (by show w.heap.size + 1 ≠ p; have := H.out.lt; omega))).trans x2) (Nat.ne_of_lt (cell_lt (T0n.out wn (Below.refl _ _)))) (Nat.ne_of_lt (cell_lt (T1n.out wn (Below.refl _ _))))).mono ?_
              rintro e w4 ⟨rfl, h5, h6⟩
              have h7 := HO.out
              rw [HE2.out] at h7 ⊢
              exact ⟨rfl, h5.disk h7, ((Dw.of_below HBW7.out).trans (h4.dw m)).new h6 (by have := HBn.out.size; omega)⟩))
            clear h0
            go_wp2_with fail
            refine HW.out.mono ?_
            rintro e w3 ⟨rfl, h5, h6⟩
            have H5 := Lib.hid h5; have H6 := Lib.hid h6
            clear h5 h6
            go_wp2_with fail
            go_ret
            exact ⟨by rw [HE2.out]; rfl, H5.out, H6.out⟩
end Go.Proofs.Ytdmodhcbcpmadaa
end

section
set_option linter.unusedSimpArgs false
set_option linter.unusedVariables false
namespace Go.Proofs.Ytdmodhcbcpmadaa
open Go.RowKit

def CommitG (G : Nat → Prop) (w : World) (q p m : Nat) (r : Lg × Dk × Nat) (e : Ending) (w' : World) : Prop := e = .returned (.int .i64 r.2.2) ∧ DiskG G w' p m r.2.1 ∧ LogAt w' q p r.1 ∧ Bw w w' [p, m, q]
set_option maxRecDepth 100000 in
set_option maxHeartbeats 4000000 in
theorem commit_g {G : Nat → Prop} {w : World} {q p m : Nat} {L : Lg} {d : Dk} (h : DiskG G w p m d) (hl : LogAt w q p L) (hok : L.Ok) (hw : d.writes < 100000000000) (b : List UInt8) (n : Nat) (hn : n = b.length) (C : Option Addr) (capb : Nat) (hC : Bs w w.heap.size C b) (hC0 : C = none → b = []) :
    Calls Try.prog 39 #[.pointer (some ⟨q, 0, none⟩), .slice C n capb] w (CommitG G w q p m (lcommit L d b)) := by
  have H := Lib.hid h; have HL := Lib.hid hl; have HN := Lib.hid hn; have HC := Lib.hid hC; have HC0 := Lib.hid hC0
  have hnm := hok.name
  have hrs := hok.reserve
  have hsz := hok.size
  have hnn := hok.n
  have HNE := Lib.hid (hl.ne h.to)
  have hc := fun i => cell_blk hl i
  have c0 := hc 0; have c1 := hc 1; have c2 := hc 2; have c3 := hc 3; have c4 := hc 4; have c5 := hc 5
  simp only [List.getElem?_toArray, List.getElem?_cons_succ, List.getElem?_cons_zero] at c0 c1 c2 c3 c4 c5
  clear h hl hn hC hC0 hc hok
  go_enter Try.func39, Try.ntmps39
  go_wp2_with fail
  refine (lnone_at HL.out).mono ?_
  rintro e w1 ⟨rfl, rfl⟩
  cases hb : L.broken with
  | true =>
    rw [hb] at c5
    have HE : Hid (lcommit L d b = (L, d, 14)) := Lib.hid (by unfold lcommit; rw [if_pos hb])
    clear hb
    go_wp2_with fail
    go_ret
    exact ⟨by rw [HE.out]; rfl, by rw [HE.out]; exact H.out, by rw [HE.out]; exact HL.out, .refl _ _⟩
  | false =>
    rw [hb] at c5
    have HB : Hid (¬ L.broken = true) := Lib.hid (by rw [hb]; decide)
    clear hb
    by_cases hlong : 65536 < n
    · have HE : Hid (lcommit L d b = (L, d, 3)) := Lib.hid (by unfold lcommit; rw [if_neg HB.out, if_pos (by rw [← HN.out]; exact hlong)])
      have HF := Lib.hid (frame_long n hlong C capb w1)
      go_wp2_with fail
      refine HF.out.mono ?_
      rintro e w2 ⟨rfl, rfl⟩
      go_wp2_with fail
      go_ret
      exact ⟨by rw [HE.out]; rfl, by rw [HE.out]; exact H.out, by rw [HE.out]; exact HL.out, .refl _ _⟩
    · have HLG : Hid (¬ 65536 < b.length) := Lib.hid (by rw [← HN.out]; exact hlong)
      have hF := frame_any b (by have := HLG.out; omega) C capb w1 HC.out HC0.out
      rw [← HN.out] at hF
      have HF := Lib.hid hF
      clear hF
      go_wp2_with fail
      refine HF.out.mono ?_
      rintro e w2 ⟨v, rfl, ho, hb2⟩
      obtain ⟨A2, cp, rfl, hrd, hA2, hcp⟩ := own_rd ho
      have HB2 := Lib.hid hb2; have HRD := Lib.hid hrd.bs; have HA2 := Lib.hid hA2
      have HL2 : Hid (LogAt w2 q p L) := Lib.hid ((hb2.block _ HL.out.lt).trans HL.out)
      have H2 := Lib.hid (H.out.below hb2)
      clear ho hb2 hrd hA2 hcp c0 c1 c2 c3 c4 c5
      have HCC : Hid (∀ W, Below w2.heap.size w2 W → W.cell? ⟨q, 0, none⟩ = some (.pointer (some ⟨p, 0, none⟩)) ∧ W.cell? ⟨q, 1, none⟩ = some (.string (str L.name)) ∧ W.cell? ⟨q, 2, none⟩ = some (.int .i64 L.reserve) ∧ W.cell? ⟨q, 4, none⟩ = some (.int .i64 L.size)) := Lib.hid fun W h => by
        have a := cell_blk ((h.block _ HL2.out.lt).trans HL2.out)
        exact ⟨a 0, a 1, a 2, a 4⟩
      have hwr : IntKind.i64.wrap ((L.reserve : Int) - (L.size : Int)) = (L.reserve : Int) - (L.size : Int) := wi64 _ (by omega) (by omega)
      generalize hk12 : n + 12 = n12 at *
      have HK12 := Lib.hid hk12
      have hn12 : n12 ≤ 65548 := by omega
      clear hk12
      go_upto_region 8 with (fail)
      by_cases hq : L.reserve < L.size + n12
      · have hq2 : (L.reserve : Int) - (L.size : Int) < n12 := by omega
        have HE : Hid (lcommit L d b = (L, d, 12)) := Lib.hid (by unfold lcommit; rw [if_neg HB.out, if_neg HLG.out, if_pos (by rw [← HN.out, HK12.out]; exact hq)])
        apply wp_region_relH (H := []) 12 [(Sum.inl _ : TT), (Sum.inl _ : TT), (Sum.inl _ : TT), (Sum.inl _ : TT), (Sum.inl _ : TT), (Sum.inl _ : TT), (Sum.inl _ : TT), (Sum.inl _ : TT), (Sum.inl _ : TT), (Sum.inl _ : TT), (Sum.inl _ : TT), (Sum.inl _ : TT)] (by kernel_rfl) (by kernel_rfl) (fun _ _ _ _ _ h => h) rfl
        simp only [List.take_succ_cons, List.take_zero, List.drop_succ_cons, List.drop_zero]
        iterate 12 (apply rel_isS; (intro W hW hf; obtain ⟨x1, x2, x3, x4⟩ := HCC.out W hW; go_simp; first | exact ⟨StayS.refl _ _, rfl⟩ | rfl); simp only [Act.put, List.setIfInBounds_toArray, List.set_cons_succ, List.set_cons_zero])
        refine rel_endS ?_
        intro W hW hf
        try simp only [Act.put, List.setIfInBounds_toArray, List.set_cons_succ, List.set_cons_zero]
        have H3 := Lib.hid (H2.out.below hW)
        have HL3 : Hid (LogAt W q p L) := Lib.hid ((hW.block _ HL2.out.lt).trans HL2.out)
        have HB3 := Lib.hid (HB2.out.trans (hW.mono HB2.out.size))
        clear hW hf
        go_wp2_with fail
        go_ret
        exact ⟨by rw [HE.out]; rfl, by rw [HE.out]; exact H3.out, by rw [HE.out]; exact HL3.out, .of_below HB3.out⟩
      · have hq2 : ¬ (L.reserve : Int) - (L.size : Int) < n12 := by omega
        have HQ : Hid (L.size + n12 ≤ L.reserve) := Lib.hid (by omega)
        have HE : Hid (lcommit L d b = lcommit2 L (d.append L.name (frameL b)) n12) := Lib.hid (by unfold lcommit; rw [if_neg HB.out, if_neg HLG.out, if_neg (by rw [← HN.out, HK12.out]; exact hq), ← HN.out, HK12.out])
        apply wp_region_relH (H := []) 12 [(Sum.inl _ : TT), (Sum.inl _ : TT), (Sum.inl _ : TT), (Sum.inl _ : TT), (Sum.inl _ : TT), (Sum.inl _ : TT), (Sum.inl _ : TT), (Sum.inl _ : TT), (Sum.inl _ : TT), (Sum.inl _ : TT), (Sum.inl _ : TT), (Sum.inl _ : TT)] (by kernel_rfl) (by kernel_rfl) (fun _ _ _ _ _ h => h) rfl
        simp only [List.take_succ_cons, List.take_zero, List.drop_succ_cons, List.drop_zero]
        iterate 12 (apply rel_isS; (intro W hW hf; obtain ⟨x1, x2, x3, x4⟩ := HCC.out W hW; go_simp; first | exact ⟨StayS.refl _ _, rfl⟩ | rfl); simp only [Act.put, List.setIfInBounds_toArray, List.set_cons_succ, List.set_cons_zero])
        refine rel_endS ?_
        intro W hW hf
        try simp only [Act.put, List.setIfInBounds_toArray, List.set_cons_succ, List.set_cons_zero]
        have H3 := Lib.hid (H2.out.below hW)
        have HL3 : Hid (LogAt W q p L) := Lib.hid ((hW.block _ HL2.out.lt).trans HL2.out)
        have HB3 := Lib.hid (HB2.out.trans (hW.mono HB2.out.size))
        have HRD3 := Lib.hid ((HRD.out.below hW).more hW.size)
        clear hW hf hq hq2 hwr HCC HRD H2 HL2 HB2 H HC HC0
        have HCC : Hid (∀ W2, Below W.heap.size W W2 → W2.cell? ⟨q, 0, none⟩ = some (.pointer (some ⟨p, 0, none⟩)) ∧ W2.cell? ⟨q, 1, none⟩ = some (.string (str L.name))) := Lib.hid fun W2 h => by
          have a := cell_blk ((h.block _ HL3.out.lt).trans HL3.out)
          exact ⟨a 0, a 1⟩
        go_upto_region 10 with (fail)
        rename_i W0 _
        apply wp_region_relH (H := []) 9 [(Sum.inl _ : TT), (Sum.inl _ : TT), (Sum.inl _ : TT), (Sum.inl _ : TT), (Sum.inl _ : TT), (Sum.inl _ : TT), (Sum.inl _ : TT), (Sum.inl _ : TT), (Sum.inl _ : TT)] (by kernel_rfl) (by kernel_rfl) (fun _ _ _ _ _ h => h) rfl
        simp only [List.take_succ_cons, List.take_zero, List.drop_succ_cons, List.drop_zero]
        iterate 9 (apply rel_isS; (intro W hW hf; obtain ⟨x1, x2⟩ := HCC.out W hW; go_simp; first | exact ⟨StayS.refl _ _, rfl⟩ | rfl); simp only [Act.put, List.setIfInBounds_toArray, List.set_cons_succ, List.set_cons_zero])
        refine rel_endS ?_
        intro W hW hf
        try simp only [Act.put, List.setIfInBounds_toArray, List.set_cons_succ, List.set_cons_zero]
        have H4 := Lib.hid (H3.out.below hW)
        have HL4 : Hid (LogAt W q p L) := Lib.hid ((hW.block _ HL3.out.lt).trans HL3.out)
        have HB4 := Lib.hid (HB3.out.trans (hW.mono HB3.out.size))
        have HRD4 := Lib.hid ((HRD3.out.below hW).more hW.size)
        clear hW hf HCC HRD3 H3 HL3 HB3
        have HFL : Hid (n12 = (frameL b).length) := Lib.hid (by rw [frame_length, ← HN.out, HK12.out])
        have HAP := Lib.hid (append_g H4.out (by omega) L.name (by omega) (frameL b) n12 HFL.out (by omega) A2 cp HRD4.out (fun h => List.eq_nil_of_length_eq_zero (by rw [← HFL.out]; exact HA2.out h)))
        go_wp2_with fail
        refine HAP.out.mono ?_
        rintro e w5 ⟨rfl, h5, h6⟩
        have H5 := Lib.hid h5
        have HL5 : Hid (LogAt w5 q p L) := Lib.hid ((h6.block _ HL4.out.lt HNE.out.1 HNE.out.2).trans HL4.out)
        have HB5 : Hid (Bw w1 w5 [p, m, q]) := Lib.hid ((Bw.of_below HB4.out).trans (h6.bw.more (by simp)))
        have hwr5 : (d.append L.name (frameL b)).1.writes ≤ d.writes + 1 := append_writes _ _ _
        clear h5 h6 HAP HRD4 H4 HL4 HB4
        generalize d.append L.name (frameL b) = s at *
        obtain ⟨d5, e5⟩ := s
        simp only [] at hwr5
        have HD5 : Hid (DiskG G w5 p m d5) := Lib.hid H5.out
        clear H5
        by_cases h0 : e5 = 0
        · subst h0
          have HE2 : Hid (lcommit2 L (d5, 0) n12 = lcommit3 L (d5.sync L.name) n12) := Lib.hid (by unfold lcommit2; rw [if_neg (fun h => h rfl)])
          have HCC : Hid (∀ W2, Below w5.heap.size w5 W2 → W2.cell? ⟨q, 0, none⟩ = some (.pointer (some ⟨p, 0, none⟩)) ∧ W2.cell? ⟨q, 1, none⟩ = some (.string (str L.name))) := Lib.hid fun W2 h => by
            have a := cell_blk ((h.block _ HL5.out.lt).trans HL5.out)
            exact ⟨a 0, a 1⟩
          go_upto_region 14 with (fail)
          apply wp_region_relH (H := []) 8 [(Sum.inl _ : TT), (Sum.inl _ : TT), (Sum.inl _ : TT), (Sum.inl _ : TT), (Sum.inl _ : TT), (Sum.inl _ : TT), (Sum.inl _ : TT), (Sum.inl _ : TT)] (by kernel_rfl) (by kernel_rfl) (fun _ _ _ _ _ h => h) rfl
          simp only [List.take_succ_cons, List.take_zero, List.drop_succ_cons, List.drop_zero]
          iterate 8 (apply rel_isS; (intro W hW hf; obtain ⟨x1, x2⟩ := HCC.out W hW; go_simp; first | exact ⟨StayS.refl _ _, rfl⟩ | rfl); simp only [Act.put, List.setIfInBounds_toArray, List.set_cons_succ, List.set_cons_zero])
          refine rel_endS ?_
          intro W hW hf
          try simp only [Act.put, List.setIfInBounds_toArray, List.set_cons_succ, List.set_cons_zero]
          have H6 := Lib.hid (HD5.out.below hW)
          have HL6 : Hid (LogAt W q p L) := Lib.hid ((hW.block _ HL5.out.lt).trans HL5.out)
          have HB6 := Lib.hid (HB5.out.trans (.of_below hW))
          clear hW hf HCC HD5 HL5 HB5
          have HSY := Lib.hid (sync_g H6.out (by omega) L.name (by omega))
          go_wp2_with fail
          refine HSY.out.mono ?_
          rintro e w7 ⟨rfl, h7, h8⟩
          have HL7 : Hid (LogAt w7 q p L) := Lib.hid ((h8.block _ HL6.out.lt HNE.out.1 HNE.out.2).trans HL6.out)
          have HB7 : Hid (Bw w1 w7 [p, m, q]) := Lib.hid (HB6.out.trans (h8.bw.more (by simp)))
          have H7 := Lib.hid h7
          clear h7 h8 HSY H6 HL6 HB6
          generalize d5.sync L.name = s at *
          obtain ⟨d7, e7⟩ := s
          have HD7 : Hid (DiskG G w7 p m d7) := Lib.hid H7.out
          clear H7
          have hc := fun i => cell_blk HL7.out i
          have c3 := hc 3; have c4 := hc 4; have c5 := hc 5
          simp only [List.getElem?_toArray, List.getElem?_cons_succ, List.getElem?_cons_zero] at c3 c4 c5
          have fz := fun i => free_blk HL7.out i
          clear hc
          by_cases h0 : e7 = 0
          · subst h0
            have HE3 : Hid (lcommit L d b = (⟨L.name, L.reserve, L.n + 1, L.size + n12, L.broken⟩, d7, 0)) := Lib.hid (by rw [HE.out, HE2.out]; unfold lcommit3; rw [if_neg (fun h => h rfl)])
            have hq4 := HQ.out
            have c3' := c3; have c4' := c4
            go_wp2_with fail
            go_ret
            refine ⟨by rw [HE3.out]; rfl, by rw [HE3.out]; exact (HD7.out.set c3' rfl HNE.out.1 _).set ((cell_set (by simp)).trans c4') rfl HNE.out.1 _, ?_, HB7.out.trans ((((Ow.refl w7 q).set 3 _).set 4 _).bw.more (by simp))⟩
            rw [HE3.out]
            unfold LogAt
            simp only [Int.natCast_add]
            exact set_blk (set_blk HL7.out 3 _) 4 _
          · have h1 : ((e7 : Int) != 0) = true := by simpa using h0
            have HE3 : Hid (lcommit L d b = (⟨L.name, L.reserve, L.n, L.size, true⟩, d7, e7)) := Lib.hid (by rw [HE.out, HE2.out]; unfold lcommit3; rw [if_pos h0])
            have c5' := c5
            clear h0
            go_wp2_with fail
            go_ret
            exact ⟨by rw [HE3.out]; rfl, by rw [HE3.out]; exact HD7.out.set c5' rfl HNE.out.1 _, by rw [HE3.out]; exact set_blk HL7.out 5 (.bool true), HB7.out.trans (((Ow.refl w7 q).set 5 (.bool true)).bw.more (by simp))⟩
        · have h1 : ((e5 : Int) != 0) = true := by simpa using h0
          have HE3 : Hid (lcommit L d b = (⟨L.name, L.reserve, L.n, L.size, !decide (e5 = 8)⟩, d5, e5)) := Lib.hid (by rw [HE.out]; unfold lcommit2; rw [if_pos h0])
          have h2 : ((e5 : Int) != 8) = !decide (e5 = 8) := by by_cases h : e5 = 8 <;> simp [h] <;> omega
          have hc := fun i => cell_blk HL5.out i
          have c5 := hc 5
          simp only [List.getElem?_toArray, List.getElem?_cons_succ, List.getElem?_cons_zero] at c5
          have fz := fun i => free_blk HL5.out i
          have c5' := c5
          clear h0 hc
          go_wp2_with fail
          go_ret
          exact ⟨by rw [HE3.out]; rfl, by rw [HE3.out]; exact HD5.out.set c5' rfl HNE.out.1 _, by rw [HE3.out]; exact set_blk HL5.out 5 (.bool (!decide (e5 = 8))), HB5.out.trans (((Ow.refl w5 q).set 5 (.bool (!decide (e5 = 8)))).bw.more (by simp))⟩
end Go.Proofs.Ytdmodhcbcpmadaa
end

section
set_option linter.unusedSimpArgs false
set_option linter.unusedVariables false
namespace Go.Proofs.Ytdmodhcbcpmadaa
open Go.RowKit

/-- no file lies in the block of a slice. -/
def Apart (v : Value) (b : Nat) : Prop := v.ownBlock ≠ some b
structure LG (w0 w : World) (p m q : Nat) (d : Dk) (L : Lg) (v : Value) : Prop where
  disk : DiskG (Apart v) w p m d
  log : LogAt w q p L
  below : Below w0.heap.size w0 w
  new : w0.heap.size ≤ p ∧ w0.heap.size ≤ m ∧ w0.heap.size ≤ q
theorem DiskG.of_empty {G : Nat → Prop} {w : World} {p m : Nat} {d : Dk} (h : DiskAt w p m d) (h0 : d.fs = []) (hn : ∀ b, w.heap.size ≤ b → G b) : DiskG G w p m d := by
  obtain ⟨vs, h1, h2⟩ := h.files
  rw [h0] at h2
  cases vs with
  | nil => exact ⟨h.own, h.ok, ⟨[], h1, by rw [h0]; trivial⟩, hn⟩
  | cons x l => exact h2.elim
theorem own_ne {w : World} {B n k : Nat} {e T : TypeId} {v : Value} {xs : List Value} {cs : Array Value} (h : w.ownsRow B e 1 v n xs) (hk : w.heap[k]? = some (.cells cs T (0, 0))) (hT : T ≠ e) : v.ownBlock ≠ some k := by
  rcases h.2 with ⟨rfl, _⟩ | ⟨g, cap, cur, rfl, _, hg, _⟩
  · intro h; cases h
  · intro h
    injection h with h
    have h' : g = k := h
    subst h'
    rw [hg] at hk
    injection hk with hk
    injection hk with _ h2 _
    exact hT h2.symm
theorem own_nomap {w : World} {B n k : Nat} {e : TypeId} {v : Value} {xs : List Value} {vs : Nl Value} (h : w.ownsRow B e 1 v n xs) (hk : MapN Try.prog 9 w k vs) : v.ownBlock ≠ some k := by
  obtain ⟨es, c, h1, _⟩ := hk
  rcases h.2 with ⟨rfl, _⟩ | ⟨g, cap, cur, rfl, _, hg, _⟩
  · intro h; cases h
  · intro h
    injection h with h
    have h' : g = k := h
    subst h'
    rw [hg] at h1
    cases h1
theorem own_bw {w w' : World} {B n : Nat} {e : TypeId} {v : Value} {xs : List Value} {S : List Nat} (h : w.ownsRow B e 1 v n xs) (hb : Bw w w' S) (hS : ∀ k ∈ S, v.ownBlock ≠ some k) : w'.ownsRow B e 1 v n xs := by
  refine ⟨h.1, ?_⟩
  rcases h.2 with h2 | ⟨g, cap, cur, rfl, h2, hg, h3⟩
  · exact .inl h2
  · exact .inr ⟨g, cap, cur, rfl, h2, (hb.block g (lt_blk hg) (fun hm => hS g hm rfl)).trans hg, h3⟩
section
variable {w0 w w' : World} {p m q : Nat} {d : Dk} {L : Lg} {v v' : Value}
theorem LG.after (h : LG w0 w p m q d L v) (hb : Below w.heap.size w w') : LG w0 w' p m q d L v := ⟨h.disk.below hb, (hb.block _ h.log.lt).trans h.log, h.below.trans (hb.mono h.below.size), h.new⟩
theorem LG.apart {B n : Nat} {e : TypeId} {xs : List Value} (h : LG w0 w p m q d L v) (ho : w.ownsRow B e 1 v n xs) (h1 : 55 ≠ e) (h2 : 66 ≠ e) : ∀ k ∈ [p, m, q], v.ownBlock ≠ some k := by
  intro k hk
  simp only [List.mem_cons, List.not_mem_nil, or_false] at hk
  rcases hk with rfl | rfl | rfl
  · exact own_ne ho h.disk.own h1
  · obtain ⟨vs, h3, _⟩ := h.disk.files
    exact own_nomap ho h3
  · exact own_ne ho h.log h2
theorem LG.row (h : LG w0 w p m q d L v) (hg : w.grownBy w' v.ownBlock) (hn : ∀ k ∈ [p, m, q], v.ownBlock ≠ some k) (hv' : v'.ownBlock = v.ownBlock ∨ ∃ k, v'.ownBlock = some k ∧ w.heap.size ≤ k ∧ k < w'.heap.size) (hb : ∀ k, v.ownBlock = some k → w0.heap.size ≤ k) : LG w0 w' p m q d L v' := by
  refine ⟨h.disk.grown hg (hn p (by simp)) (hn m (by simp)) (fun b hb => hb) (fun b hb hl => ?_) (fun b hl => ?_), (hg.block q h.log.lt (fun e => hn q (by simp) e.symm)).trans h.log, ?_, h.new⟩
  · rcases hv' with e | ⟨k, e, h1, h2⟩
    · unfold Apart; rw [e]; exact hb
    · unfold Apart; rw [e]; intro e2; injection e2 with e2; omega
  · rcases hv' with e | ⟨k, e, h1, h2⟩
    · unfold Apart; rw [e]; exact h.disk.new b (Nat.le_trans hg.size hl)
    · unfold Apart; rw [e]; intro e2; injection e2 with e2; omega
  · exact h.below.grown hg h.below.size hb
theorem LG.commit (h : LG w0 w p m q d L v) (hok : L.Ok) (hw : d.writes < 100000000000) (b : List UInt8) (n : Nat) (hn : n = b.length) (C : Option Addr) (capb : Nat) (hC : Bs w w.heap.size C b) (hC0 : C = none → b = []) :
    Calls Try.prog 39 #[.pointer (some ⟨q, 0, none⟩), .slice C n capb] w fun e w' => e = .returned (.int .i64 (lcommit L d b).2.2) ∧ LG w0 w' p m q (lcommit L d b).2.1 (lcommit L d b).1 v ∧ Bw w w' [p, m, q] := by
  refine (commit_g h.disk h.log hok hw b n hn C capb hC hC0).mono ?_
  rintro e w' ⟨he, h1, h2, h3⟩
  exact ⟨he, ⟨h1, h2, below_bw h.below h3 (by simp [h.new]), h.new⟩, h3⟩
end
end Go.Proofs.Ytdmodhcbcpmadaa
end
