/- several texts in one: plain: where a new file comes to lie in either disk's list., DiskFull: the names; a disk stays where the reference's disk is written., the reference's disk: Append of a new file that fits (under way)., DiskFull: what both disks tell is the same., DiskFull: both disks beside one another; plain facts, Append of both., DiskFull., DiskFull: the law's walk. -/
import Derived.Test.YtdmodhcbcpmadaaMg9
import Derived.Test.YtdmodhcbcpmadaaSe
import Derived.Test.YtdmodhcbcpmadaaNk
import Derived.Test.YtdmodhcbcpmadaaA0
section
set_option linter.unusedSimpArgs false
set_option linter.unusedVariables false
namespace Go.Proofs.Ytdmodhcbcpmadaa
open Go.RowKit

theorem less_before : ∀ a b : List UInt8, Op.bytesLess a b = bytesBefore a b
  | [], [] => rfl
  | [], _ :: _ => rfl
  | _ :: _, [] => rfl
  | a :: r, b :: s => by unfold Op.bytesLess bytesBefore; rw [less_before r s]
theorem putat_cases {k : Nm} {p : Nm × Value} {rs rs' : List (Nm × Value)} (h : PutAt k (p :: rs) rs') :
    (Op.bytesLess k p.1 = true ∧ rs' = newF k :: p :: rs) ∨ (Op.bytesLess k p.1 = false ∧ ∃ r', PutAt k rs r' ∧ rs' = p :: r') := by
  obtain ⟨i0, h0, rfl, h1, h2⟩ := h
  cases i0 with
  | zero => exact .inl ⟨h2 p rfl, rfl⟩
  | succ i =>
    refine .inr ⟨h1 p (by simp), rs.take i ++ newF k :: rs.drop i, ⟨i, by simpa using h0, rfl, fun x hx => h1 x (by simp [hx]), fun x hx => h2 x (by simpa using hx)⟩, rfl⟩
theorem putat_nil {k : Nm} {rs' : List (Nm × Value)} (h : PutAt k [] rs') : rs' = [newF k] := by
  obtain ⟨i0, h0, rfl, _⟩ := h
  simp
theorem putat_names {α : Type} {k : Nm} (a : α) : ∀ (rs rs' : List (Nm × Value)) (fs : Nl α), names fs = rs.map (·.1) → PutAt k rs rs' → names (nins (k, a) fs) = rs'.map (·.1)
  | [], rs', fs, hn, hp => by
    rw [putat_nil hp]
    have : fs = [] := by
      have := congrArg List.length hn
      unfold names at this
      exact List.eq_nil_of_length_eq_zero (by simpa using this)
    subst this
    rfl
  | p :: rs, rs', [], hn, hp => by simp [names] at hn
  | p :: rs, rs', f :: fs, hn, hp => by
    unfold names at hn
    rw [List.map_cons, List.map_cons] at hn
    injection hn with e1 e2
    unfold nins
    rcases putat_cases hp with ⟨h1, rfl⟩ | ⟨h1, r', h2, rfl⟩
    · rw [less_before, ← e1] at h1
      rw [if_pos h1]
      unfold names
      simp only [List.map_cons, newF, e1, e2]
    · rw [less_before, ← e1] at h1
      rw [if_neg (by rw [h1]; decide)]
      have := putat_names a rs r' fs e2 h2
      unfold names at this ⊢
      simp only [List.map_cons, e1, this]
theorem putat_mem {k : Nm} {rs rs' : List (Nm × Value)} (h : PutAt k rs rs') : ∀ p, p ∈ rs' ↔ p ∈ rs ∨ p = newF k := by
  obtain ⟨i0, h0, rfl, _⟩ := h
  intro p
  rw [List.mem_append, List.mem_cons]
  have : p ∈ rs ↔ p ∈ rs.take i0 ∨ p ∈ rs.drop i0 := by rw [← List.mem_append, List.take_append_drop]
  rw [this]
  constructor
  · rintro (h | h | h)
    · exact .inl (.inl h)
    · exact .inr h
    · exact .inl (.inr h)
  · rintro ((h | h) | h)
    · exact .inl h
    · exact .inr (.inr h)
    · exact .inr (.inl h)
theorem putat_len {k : Nm} {rs rs' : List (Nm × Value)} (h : PutAt k rs rs') : rs'.length = rs.length + 1 := by
  obtain ⟨i0, h0, rfl, _⟩ := h
  simp only [List.length_append, List.length_cons, List.length_take, List.length_drop]
  omega
end Go.Proofs.Ytdmodhcbcpmadaa
end

section
set_option linter.unusedSimpArgs false
set_option linter.unusedVariables false
namespace Go.Proofs.Ytdmodhcbcpmadaa
open Go.RowKit

def nmI (i : Nat) : Nm := [UInt8.ofNat (97 + i % 26), UInt8.ofNat (97 + i / 26)]
def bigN : Nm := [98, 105, 103]
theorem nmI_inj {i j : Nat} (hi : i < 300) (hj : j < 300) (h : nmI i = nmI j) : i = j := by
  unfold nmI at h
  injection h with h1 h2
  injection h2 with h2 _
  have e1 := congrArg UInt8.toNat h1
  have e2 := congrArg UInt8.toNat h2
  rw [UInt8.toNat_ofNat', UInt8.toNat_ofNat'] at e1 e2
  omega
theorem nmI_letters {i : Nat} (hi : i < 300) : ∀ c ∈ nmI i, 97 ≤ c.toNat ∧ c.toNat ≤ 122 := by
  intro c hc
  unfold nmI at hc
  simp only [List.mem_cons, List.not_mem_nil, or_false] at hc
  rcases hc with rfl | rfl <;> rw [UInt8.toNat_ofNat'] <;> omega
theorem nmI_big (i : Nat) : nmI i ≠ bigN := fun h => by
  have := congrArg List.length h
  simp [nmI, bigN] at this
theorem big_letters : ∀ c ∈ bigN, 97 ≤ c.toNat ∧ c.toNat ≤ 122 := by decide
/-- a disk stays where the reference's disk is written. -/
theorem DiskAt.kept_ref {w w' : World} {p m q sz wr : Nat} {d : Dk} {rs : List (Nm × Value)} (h : DiskAt w p m d) (hr : RefAt w q sz rs wr) (hg : w.grownBy w' (some q)) : DiskAt w' p m d := by
  obtain ⟨v, h1, h2⟩ := hr
  obtain ⟨vs, hm, ha⟩ := h.files
  have hpq : p ≠ q := by
    rintro rfl
    have := h.own.symm.trans h1
    injection this with this
    injection this with _ this _
    exact absurd this (by decide)
  have hmq : m ≠ q := by
    rintro rfl
    obtain ⟨es, c, h3, _⟩ := hm
    have := h3.symm.trans h1
    cases this
  have hv : ∀ c : Int, v ≠ .int .u8 c := fun c e => by
    obtain ⟨A, cap, e2, _⟩ := own_rdS h2
    rw [e] at e2; cases e2
  have hb : ∀ {B : Nat} {A : Option Addr} {l : List UInt8}, B ≤ w.heap.size → Bs w B A l → Bs w' B A l := fun hB hl j hj => by
    obtain ⟨b, off, h3, h4, h5⟩ := hl j hj
    refine ⟨b, off, h3, h4, ?_⟩
    rw [← h5]
    refine World.cell?_of_block (hg.block b (by omega) ?_)
    intro e
    injection e with e
    subst e
    rw [cell_blk h1] at h5
    match off + j, h5 with
    | 0, h5 => cases h5
    | 1, h5 => simp at h5; exact hv _ h5
    | 2, h5 => cases h5
    | 3, h5 => cases h5
    | i + 4, h5 => simp at h5
  refine ⟨(hg.block p h.lt (by simpa using hpq)).trans h.own, h.ok, vs, hm.at (hg.block m h.ltm (by simpa using hmq)), ha.mono fun x f hx => ?_⟩
  obtain ⟨A, cap, h3, h4, h5⟩ := hx
  exact ⟨A, cap, h3, (hb (Nat.le_refl _) h4).more hg.size, h5⟩
end Go.Proofs.Ytdmodhcbcpmadaa
end

section
set_option linter.unusedSimpArgs false
set_option linter.unusedVariables false
namespace Go.Proofs.Ytdmodhcbcpmadaa
open Go.RowKit

theorem rel_appG {P : Program} {t e : TypeId} {z : Value} {bytes : Nat} (E : El P t e z bytes) {ops : Array Oper} {o : Oper} {a : Act} {INV : World → Prop} {FR : World → World → Prop} {p : PG} {W : World} (hgd : o.guard = none) (s x : Operand)
    (ho : o.op = .call { callee := .builtin .append, args := #[s, x], argTypes := #[t, t] }) (base : Nat) (v : Value) (n : Nat) (xs : List Value) (hs : a.eval s = v) (hown : W.ownsRow base e 1 v n xs) (B : Nat) (A : Option Addr) (news : List Value) (m c : Nat) (hx : a.eval x = .slice A m c) (hm : news.length = m) (hr : Rd W B A news)
    (hA : A = none → m = 0) (h1 : ∀ u ∈ news, u.oneCell' = true) (h63 : n + m ≤ 1000000000000) (hbytes : bytes ≤ 100) (hbase : base ≤ W.heap.size)
    (h : ∀ v' w', w'.ownsRow base e 1 v' (n + m) (xs ++ news) → W.grownBy w' v.ownBlock → (∀ k, v.ownBlock = some k → base ≤ k) → GiveG INV FR p W v' w') : relOpG P INV FR ops o a p W := by
  obtain ⟨v', w', hrun, h2, h3, _⟩ := run_append_src E W base o.type v n xs hown B A news m c hm hr hA h1 h63 hbytes hbase
  refine rel_valG (v := v') (W' := w') (by simp [Region.wanted, hgd]) ?_ (h v' w' h2 h3 fun k hk => (hown.lt k hk).1)
  unfold execOp
  simp only [ho, resolve, invoke, builtin, Sem.run_bind, Sem.run_pure, Result.andThen_ok, List.map_toArray, List.map_cons, List.map_nil, hs, hx, hrun]
theorem rflat_set : ∀ (l : List (Nm × Value)) (j : Nat) (x : Value) (h : j < l.length), (l.set j (l[j].1, x)).flatMap rc = (l.flatMap rc).set (j * 4 + 1) x
  | a :: l, 0, x, _ => by
    simp only [List.set_cons_zero, List.flatMap_cons, rc]
    rfl
  | a :: l, j + 1, x, h => by
    have hj : j < l.length := by simpa using h
    rw [List.set_cons_succ, List.flatMap_cons, List.flatMap_cons, List.getElem_cons_succ, rflat_set l j x hj, List.set_append_right _ _ (by rw [rc_len, Nat.succ_mul]; omega), rc_len]
    congr 2
    rw [Nat.succ_mul]; omega
theorem own_set {w : World} {base sz n m g c : Nat} {e : TypeId} {xs : List Value} (h : w.ownsRow base e sz (.slice (some ⟨g, 0, none⟩) m c) n xs) (i : Nat) (x : Value) : (w.setCell ⟨g, i, none⟩ x).ownsRow base e sz (.slice (some ⟨g, 0, none⟩) m c) n (xs.set i x) := by
  refine ⟨by rw [List.length_set]; exact h.1, ?_⟩
  rcases h.2 with ⟨e1, _⟩ | ⟨g', cap, cur, e1, hb, hg, hn, hc, hsz, ht⟩
  · cases e1
  · injection e1 with e2 e3 e4
    injection e2 with e2; injection e2 with e2
    subst e2
    exact .inr ⟨_, cap, cur.setIfInBounds i x, by rw [e3, e4], hb, set_blk hg i x, hn, hc, by simpa using hsz, by rw [Array.toList_setIfInBounds, List.take_set, ht]⟩
theorem RefAt.bs {w w' : World} {q sz wr : Nat} {rs : List (Nm × Value)} (hr : RefAt w q sz rs wr) (hg : w.grownBy w' (some q)) {B : Nat} {A : Option Addr} {l : List UInt8} (hB : B ≤ w.heap.size) (hl : Bs w B A l) : Bs w' B A l := fun j hj => by
  obtain ⟨v, h1, h2⟩ := hr
  have hv : ∀ c : Int, v ≠ .int .u8 c := fun c e => by
    obtain ⟨A, cap, e2, _⟩ := own_rdS h2
    rw [e] at e2; cases e2
  obtain ⟨b, off, h3, h4, h5⟩ := hl j hj
  refine ⟨b, off, h3, h4, ?_⟩
  rw [← h5]
  refine World.cell?_of_block (hg.block b (by omega) ?_)
  intro e
  injection e with e
  subst e
  rw [cell_blk h1] at h5
  match off + j, h5 with
  | 0, h5 => cases h5
  | 1, h5 => simp at h5; exact hv _ h5
  | 2, h5 => cases h5
  | 3, h5 => cases h5
  | i + 4, h5 => simp at h5
theorem RefAt.below {w w' : World} {q sz wr : Nat} {rs : List (Nm × Value)} (h : RefAt w q sz rs wr) (hb : Below w.heap.size w w') : RefAt w' q sz rs wr := by
  obtain ⟨v, h1, h2⟩ := h
  exact ⟨v, (hb.block q (lt_blk h1)).trans h1, own_belowS h2 hb⟩
/-- a file's bytes are written. -/
theorem RefAt.setB {w : World} {q sz wr g c : Nat} {rs : List (Nm × Value)} (h : RefAt w q sz rs wr) (hv : w.cell? ⟨q, 1, none⟩ = some (.slice (some ⟨g, 0, none⟩) rs.length c)) {j : Nat} (hj : j < rs.length) (x : Value) : RefAt (w.setCell ⟨g, j * 4 + 1, none⟩ x) q sz (rs.set j (rs[j].1, x)) wr := by
  obtain ⟨v, h1, h2⟩ := h
  have c1 := cell_blk h1 1
  simp only [List.getElem?_toArray, List.getElem?_cons_succ, List.getElem?_cons_zero] at c1
  rw [hv] at c1
  cases c1
  have hne : q ≠ g := by
    rintro rfl
    rcases h2.2 with ⟨e, _⟩ | ⟨g', cap, cur, e, _, hg, _⟩
    · cases e
    · injection e with e1
      injection e1 with e1; injection e1 with e1
      subst e1
      rw [h1] at hg
      injection hg with e; injection e with _ e _; cases e
  refine ⟨.slice (some ⟨g, 0, none⟩) rs.length c, (Below.heap_setCell w ⟨g, j * 4 + 1, none⟩ x q hne).trans h1, ?_⟩
  have := own_set h2 (j * 4 + 1) x
  rw [← rflat_set rs j x hj] at this
  rw [List.length_set]
  exact this

set_option maxRecDepth 100000 in
set_option maxHeartbeats 2000000 in
theorem rok_at {w : World} {q sz wr : Nat} {rs : List (Nm × Value)} (h : RefAt w q sz rs wr) (hl : rs.length < 256) (hw : wr ≤ 1000) (hsz : sz ≤ 100000000) (k : Nm) (k1 : 1 ≤ k.length) (k2 : k.length ≤ 40) (hk : ∀ c ∈ k, 97 ≤ c.toNat ∧ c.toNat ≤ 122) (hno : ∀ p ∈ rs, p.1 ≠ k)
    (hsl : ∀ p ∈ rs, ∃ A n c, p.2 = .slice A n c) (bs : List Nat) (hbl : bs.length = rs.length) (hb : ∀ j (h1 : j < bs.length) (h2 : j < rs.length), BLen bs[j] rs[j].2) (hsum : ∀ j, (bs.take j).sum ≤ 1000000) (hsm : bs.sum ≤ 1000000) (b : List UInt8) (C : Option Addr) (n cap : Nat) (hnb : n = b.length) (hn : n ≤ 1000000) (hC : Bs w w.heap.size C b) (hC0 : C = none → b = []) (hfit : bs.sum + n ≤ sz) :
    Calls Try.prog 15 #[.pointer (some ⟨q, 0, none⟩), .string (str k), .slice C n cap] w fun e w' => e = .returned (.int .i64 0) ∧ ∃ rs' j v', ∃ h : j < rs'.length, PutAt k rs rs' ∧ rs'[j].1 = k ∧ RefAt w' q sz (rs'.set j (k, v')) (wr + 1) ∧ BV w' b v' ∧ w.grownBy w' (some q) := by
  have HN := Lib.hid (rname_at k k1 k2 hk w)
  have HA := Lib.hid (rat_at h (by omega) k)
  have HNO := Lib.hid hno
  have HRB : Hid (∀ W, Below w.heap.size w W → RefAt W q sz rs wr) := Lib.hid (fun W hW => h.dw (Dw.of_below (p := W.heap.size) (m := W.heap.size) hW) (fun cs => ⟨by rw [Array.getElem?_eq_none (by have := hW.size; omega)]; simp, by rw [Array.getElem?_eq_none (by have := hW.size; omega)]; simp⟩) (fun cs => ⟨by rw [Array.getElem?_eq_none (by have := hW.size; omega)]; simp, by rw [Array.getElem?_eq_none (by have := hW.size; omega)]; simp⟩))
  have HUS := Lib.hid (fun W (hW : Below w.heap.size w W) => rused_at (w := W) (HRB.out W hW) (by omega) bs hbl hb (fun j => Nat.le_trans (hsum j) (by omega)))
  have HSL := Lib.hid hsl; have HC := Lib.hid hC; have HC0 := Lib.hid hC0; have HNB := Lib.hid hnb
  obtain ⟨v, h1, h2⟩ := h
  have hq := (Array.getElem?_eq_some_iff.1 h1).1
  obtain ⟨A, vcap, rfl, _, _, hcap⟩ := own_rdS h2
  have HCC : Hid (∀ W, Below w.heap.size w W → W.cell? ⟨q, 0, none⟩ = some (.int .i64 sz) ∧ W.cell? ⟨q, 1, none⟩ = some (.slice A rs.length vcap)) := Lib.hid fun W hW => by
    have a0 := cell_blk ((hW.block _ hq).trans h1) 0
    have a1 := cell_blk ((hW.block _ hq).trans h1) 1
    exact ⟨a0, a1⟩
  generalize hbsum : bs.sum = us at *
  clear h1 h2 hno hbl hb hsum hk hbsum hsl hC hC0 hnb
  go_enter Try.func15, Try.ntmps15
  go_wp2_with fail
  refine HN.out.mono ?_
  rintro e w1 ⟨rfl, rfl⟩
  go_wp2_with fail
  refine HA.out.mono ?_
  rintro e w2 ⟨rfl, he⟩
  rcases he with ⟨j, hlt, rfl, hjk⟩ | ⟨rfl, _⟩
  · exact absurd hjk (HNO.out _ (List.getElem_mem hlt))
  have hm2 : ¬ (256 : Int) ≤ rs.length := by omega
  have hgt : ¬ (sz : Int) < IntKind.i64.wrap ((us : Int) + n) := by rw [wi64 _ (by omega) (by omega)]; omega
  go_upto_region 4 with (fail)
  apply wp_region_relH (H := []) 22 [(Sum.inl _ : TT), (Sum.inl _ : TT), (Sum.inl _ : TT), (Sum.inl _ : TT), (Sum.inl _ : TT), (Sum.inl _ : TT), (Sum.inl _ : TT), (Sum.inl _ : TT), (Sum.inl _ : TT), (Sum.inl _ : TT), (Sum.inl _ : TT), (Sum.inl _ : TT), (Sum.inl _ : TT), (Sum.inl _ : TT), (Sum.inl _ : TT), (Sum.inl _ : TT), (Sum.inl _ : TT), (Sum.inl _ : TT), (Sum.inl _ : TT), (Sum.inl _ : TT), (Sum.inl _ : TT), (Sum.inl _ : TT)] (by kernel_rfl) (by kernel_rfl) (fun _ _ _ _ _ h => h) rfl
  simp only [List.take_succ_cons, List.take_zero, List.drop_succ_cons, List.drop_zero]
  iterate 12 (apply rel_isS; (intro W hW hf; obtain ⟨z1, z2⟩ := HCC.out W hW; go_simp; first | exact ⟨StayS.refl _ _, rfl⟩ | rfl); simp only [Act.put, List.setIfInBounds_toArray, List.set_cons_succ, List.set_cons_zero])
  apply rel_isS
  · intro W hW hf
    exact rel_callS hW (by first | rfl | (go_simp; done) | (go_simp; simp)) (by go_simp <;> first | rfl | exact ⟨rfl, rfl⟩ | exact ⟨rfl, rfl, rfl⟩) ((HUS.out W hW).mono fun e w'' h => ⟨_, h.2, h.1 ▸ Below.refl _ _, rfl⟩)
  simp only [Act.put, List.setIfInBounds_toArray, List.set_cons_succ, List.set_cons_zero]
  iterate 9 (apply rel_isS; (intro W hW hf; obtain ⟨z1, z2⟩ := HCC.out W hW; go_simp; first | exact ⟨StayS.refl _ _, rfl⟩ | rfl); simp only [Act.put, List.setIfInBounds_toArray, List.set_cons_succ, List.set_cons_zero])
  refine rel_endS ?_
  intro W hW hf
  try simp only [Act.put, List.setIfInBounds_toArray, List.set_cons_succ, List.set_cons_zero]
  refine wpList_nil ?_
  have HH6 := Lib.hid hW
  have HR6 := Lib.hid (HRB.out W hW)
  have HP := Lib.hid (rpower_at (HRB.out W hW) (by omega))
  clear hW hf
  go_wp2_with fail
  refine HP.out.mono ?_
  rintro e w3 ⟨rfl, h3, hg3⟩
  have H3 := Lib.hid h3; have HG3 := Lib.hid hg3
  have HPT := Lib.hid (rput_at h3 (by omega) k HSL.out)
  clear h3 hg3
  go_wp2_with fail
  refine HPT.out.mono ?_
  rintro e w4 ⟨rfl, rs', hp, h4, hg4, hn4⟩
  have H4 := Lib.hid h4; have HG4 := Lib.hid hg4; have HPA := Lib.hid hp; have HN4 := Lib.hid hn4
  have hl4 := putat_len hp
  have HA4 := Lib.hid (rat_at h4 (by omega) k)
  clear hp h4 hg4 hn4
  go_wp2_with fail
  refine HA4.out.mono ?_
  rintro e w5 ⟨rfl, he⟩
  rcases he with ⟨j, hlt, rfl, hjk⟩ | ⟨rfl, hno⟩
  · have hnew : rs'[j] = newF k := by
      rcases (putat_mem HPA.out _).1 (List.getElem_mem hlt) with h | h
      · exact absurd hjk (HNO.out _ h)
      · exact h
    obtain ⟨v4, h41, h42⟩ := H4.out
    obtain ⟨g, cp4, rfl, hc⟩ := ref_cells h42 hlt
    have hgl := (h42.lt g rfl).2
    have d1 := (hc 1 _ (by omega) rfl).1
    have d2 := (hc 1 _ (by omega) rfl).2
    rw [hnew] at d1
    have e1 := cell_blk h41 1
    simp only [List.getElem?_toArray, List.getElem?_cons_succ, List.getElem?_cons_zero] at e1
    have hq4 := lt_blk h41
    have HJK := Lib.hid hjk; have HGL := Lib.hid hgl; have HLT := Lib.hid hlt; have E1 := Lib.hid e1
    have T4 : Hid (∀ W, Below w5.heap.size w5 W → W.cell? ⟨q, 1, none⟩ = some (.slice (some ⟨g, 0, none⟩) rs'.length cp4) ∧ W.cell? ⟨g, j * 4 + 1, none⟩ = some (.slice none 0 0) ∧ W.frozen? ⟨g, j * 4 + 1, none⟩ = false) := Lib.hid fun W hW =>
      ⟨(hW.cell (p := ⟨q, 1, none⟩) hq4).trans e1, (hW.cell (p := ⟨g, j * 4 + 1, none⟩) hgl).trans d1, (hW.frozen (p := ⟨g, j * 4 + 1, none⟩) hgl).trans d2⟩
    have HC5 : Hid (Bs w5 w5.heap.size C b) := Lib.hid (by
      have a1 := ((HC.out.below HH6.out).more HH6.out.size)
      have a2 := (HR6.out.bs HG3.out (Nat.le_refl _) a1).more HG3.out.size
      exact (H3.out.bs HG4.out (Nat.le_refl _) a2).more HG4.out.size)
    have HBC : Hid ((bcells b).length = n) := Lib.hid (by rw [bcells_length, ← HNB.out])
    have HN4g : Hid (w3.heap.size ≤ g) := Lib.hid (HN4.out _ _ _ _ e1)
    have g1 : (0 : Int) ≤ j := by omega
    have g2 : (j : Int) < (rs.length : Int) + 1 := by omega
    clear hc d1 d2 h41 h42 e1 hnew hjk
    go_upto_region 11 with (fail)
    apply wp_region_relG (fun W => Below w5.heap.size w5 W) (fun W => True) (fun _ _ => True) 17 [(Sum.inl _ : TG), (Sum.inl _ : TG), (Sum.inl _ : TG), (Sum.inl _ : TG), (Sum.inl _ : TG), (Sum.inr (fun _ _ => True, some (fun v W => W.ownsRow w5.heap.size 5 1 v 0 [])) : TG), (Sum.inl _ : TG), (Sum.inl _ : TG), (Sum.inl _ : TG), (Sum.inl _ : TG), (Sum.inl _ : TG), (Sum.inl _ : TG), (Sum.inl _ : TG), (Sum.inl _ : TG), (Sum.inr (fun _ _ => True, some (fun v W => W.ownsRow w5.heap.size 5 1 v 0 [])) : TG), (Sum.inl _ : TG), (Sum.inr (fun _ _ => True, some (fun v W => W.ownsRow w5.heap.size 5 1 v n (bcells b))) : TG)] [false, false, false, false, false, true, false, false, false, false, false, false, false, false, true, false, true] (by kernel_rfl) (by kernel_rfl) (by kernel_rfl) rfl rfl (fun _ _ _ => trivial) (fun _ _ h _ => h) ((Below.refl _ _).drew) (trivial)
    simp only [List.take_succ_cons, List.take_zero, List.drop_succ_cons, List.drop_zero]
    iterate 5 (apply rel_isG; (intro W hW hf; obtain ⟨z1, z2, z3⟩ := T4.out W hW; go_simp; first | exact ⟨⟨hW, Below.refl _ _⟩, rfl⟩ | exact ⟨Below.refl _ _, rfl⟩ | rfl); simp only [Act.put, List.setIfInBounds_toArray, List.set_cons_succ, List.set_cons_zero])
    apply rel_effG
    · intro W hW hS hf
      refine rel_valG (v := .slice (some ⟨W.heap.size, 0, none⟩) 0 0) (W' := W.alloc (.cells #[] 5)) rfl (by go_simp) ?_
      exact ⟨hW.trans ((below_alloc W _).mono hW.size), trivial, trivial, owns0S W _ _ _ hW.size⟩
    · exact fun _ _ _ _ _ => trivial
    · exact fun v w w' h hb => own_below h hb
    intro v53
    simp only [Act.put, List.setIfInBounds_toArray, List.set_cons_succ, List.set_cons_zero]
    iterate 8 (apply rel_isG; (intro W hW hf; obtain ⟨z1, z2, z3⟩ := T4.out W hW; go_simp; first | exact ⟨⟨hW, Below.refl _ _⟩, rfl⟩ | exact ⟨Below.refl _ _, rfl⟩ | rfl); simp only [Act.put, List.setIfInBounds_toArray, List.set_cons_succ, List.set_cons_zero])
    apply rel_effG
    · intro W hW hS hf
      refine rel_appG E5 rfl (.tmp 53) (.tmp 61) rfl w5.heap.size v53 0 [] rfl hS 0 none [] 0 0 rfl rfl (by intro j u hu; simp at hu) (fun _ => rfl) (by simp) (by omega) (by omega) hW.size ?_
      intro v' w' h2 h3 h4
      exact ⟨hW.grown h3 hW.size h4, trivial, trivial, h2⟩
    · exact fun _ _ _ _ _ => trivial
    · exact fun v w w' h hb => own_below h hb
    intro v62
    simp only [Act.put, List.setIfInBounds_toArray, List.set_cons_succ, List.set_cons_zero]
    iterate 1 (apply rel_isG; (intro W hW hf; go_simp; first | exact ⟨⟨hW, Below.refl _ _⟩, rfl⟩ | exact ⟨Below.refl _ _, rfl⟩ | rfl); simp only [Act.put, List.setIfInBounds_toArray, List.set_cons_succ, List.set_cons_zero])
    apply rel_effG
    · intro W hW hS hf
      refine rel_appG E5 rfl (.tmp 62) (.tmp 63) rfl w5.heap.size v62 0 [] rfl hS w5.heap.size C (bcells b) n cap rfl HBC.out (HC5.out.rd.below hW) (fun h => by rw [HNB.out, HC0.out h]; rfl) (bcells_one _) (by omega) (by omega) hW.size ?_
      intro v' w' h2 h3 h4
      refine ⟨hW.grown h3 hW.size h4, trivial, trivial, ?_⟩
      rw [Nat.zero_add, List.nil_append] at h2
      exact h2
    · exact fun _ _ _ _ _ => trivial
    · exact fun v w w' h hb => own_below h hb
    intro v64
    simp only [Act.put, List.setIfInBounds_toArray, List.set_cons_succ, List.set_cons_zero]
    refine rel_endG ?_
    intro W hW hS hf
    try simp only [Act.put, List.setIfInBounds_toArray, List.set_cons_succ, List.set_cons_zero]
    obtain ⟨A6, c6, rfl, hr6, hn6, _⟩ := own_rd hS
    obtain ⟨z1, z2, z3⟩ := T4.out W hW
    have HS := Lib.hid hS; have HWW := Lib.hid hW
    clear hS hW hf hr6 hn6
    go_wp2_with fail
    go_ret
    have hgl5 : g < w5.heap.size := HGL.out
    have hg1 : W.grownBy (W.setCell ⟨g, j * 4 + 1, none⟩ (.slice A6 n c6)) (some g) := grown_setCell (World.grownBy.refl W (some g)) (p := ⟨g, j * 4 + 1, none⟩) rfl _
    have ho : (W.setCell ⟨g, j * 4 + 1, none⟩ (.slice A6 n c6)).ownsRow w5.heap.size 5 1 (.slice A6 n c6) n (bcells b) := HS.out.kept hg1 (by
      cases hA6 : A6 with
      | none => exact .inl rfl
      | some ad =>
        refine .inr fun e => ?_
        have := (HS.out.lt g (by rw [hA6]; exact e)).1
        omega)
    refine ⟨rfl, rs', j, .slice A6 n c6, HLT.out, HPA.out, HJK.out, ?_, ?_, ?_⟩
    · have h := (H4.out.below HWW.out).setB (T4.out W HWW.out).1 HLT.out (.slice A6 n c6)
      rw [HJK.out] at h
      exact h
    · obtain ⟨A', c', e, hr, hn, _⟩ := own_rd ho
      injection e with e1 e2 e3
      subst e1; subst e3
      exact ⟨A6, c6, by rw [← HNB.out], hr.bs, fun h => List.eq_nil_of_length_eq_zero (by rw [← HNB.out]; exact hn h)⟩
    · have hs0 := HH6.out.size
      have hs3 := HG3.out.size
      have hs4 := HG4.out.size
      have hsW := HWW.out.size
      have hg4 := HN4g.out
      refine ⟨HWW.out.os.trans (HG4.out.os.trans (HG3.out.os.trans HH6.out.os)), HWW.out.tape.trans (HG4.out.tape.trans (HG3.out.tape.trans HH6.out.tape)), HWW.out.output.trans (HG4.out.output.trans (HG3.out.output.trans HH6.out.output)), Nat.le_trans hs0 (Nat.le_trans hs3 (Nat.le_trans hs4 (Nat.le_trans hsW hg1.size))), fun i hi hne => ?_⟩
      rw [hg1.block i (by omega) (by intro e; injection e with e; omega), HWW.out.block i (by omega), HG4.out.block i (by omega) hne, HG3.out.block i (by omega) hne, HH6.out.block i hi]
  · exact absurd rfl (hno (newF k) ((putat_mem HPA.out _).2 (.inr rfl)))
end Go.Proofs.Ytdmodhcbcpmadaa
end

section
set_option linter.unusedSimpArgs false
set_option linter.unusedVariables false
namespace Go.Proofs.Ytdmodhcbcpmadaa
open Go.RowKit

theorem Rd.up {w : World} {B B' : Nat} {A : Option Addr} {xs : List Value} (h : Rd w B A xs) (hB : B ≤ B') : Rd w B' A xs := fun j u hu => by
  obtain ⟨b, o, e, h1, h2⟩ := h j u hu
  exact ⟨b, o, e, by omega, h2⟩
set_option maxRecDepth 100000 in
set_option maxHeartbeats 4000000 in
theorem told_full {w : World} {p m q sz wr us : Nat} {d : Dk} {rs : List (Nm × Value)} (hd : DiskAt w p m d) (hr : RefAt w q sz rs wr) (hl : rs.length ≤ 1000) (hsz : d.size = sz) (hwr : d.writes = wr) (hleft : d.left = -1) (hnm : names d.fs = rs.map (·.1)) (hshort : ∀ x ∈ names d.fs, x.length ≤ 1000)
    (bs : List Nat) (hbl : bs.length = rs.length) (hb : ∀ j (h1 : j < bs.length) (h2 : j < rs.length), BLen bs[j] rs[j].2) (hsum : ∀ j, (bs.take j).sum ≤ 1000000) (hus : bs.sum = us) (hused : d.used = us)
    (k : Nm) (hk : k.length ≤ 40) (x : List UInt8) (c : Nat) (hx : x.length ≤ 10000) (hread : d.read k = (x, c)) (hloose : d.loose k = x.length)
    (hRR : ∀ W, Below w.heap.size w W → Calls Try.prog 55 #[.pointer (some ⟨q, 0, none⟩), .string (str k)] W fun e w' => Below W.heap.size W w' ∧ ∃ v, e = .returned (.tuple #[v, .int .i64 c]) ∧ w'.ownsRow W.heap.size 5 1 v x.length (bcells x))
    (hRL : ∀ W, Below w.heap.size w W → Calls Try.prog 59 #[.pointer (some ⟨q, 0, none⟩), .string (str k)] W fun e w' => e = .returned (.int .i64 (x.length : Nat)) ∧ Below W.heap.size W w') :
    Calls Try.prog 16 #[.pointer (some ⟨p, 0, none⟩), .pointer (some ⟨q, 0, none⟩), .string (str k)] w fun e w' => e = .returned (.bool true) ∧ Below w.heap.size w w' := by
  have HD : Hid (∀ W, Below w.heap.size w W → DiskAt W p m d) := Lib.hid fun W h => hd.below h
  have HR : Hid (∀ W, Below w.heap.size w W → RefAt W q sz rs wr) := Lib.hid fun W h => hr.below h
  have HRR := Lib.hid hRR; have HRL := Lib.hid hRL
  have HNM := Lib.hid hnm; have HSH := Lib.hid hshort
  have HUR : Hid (∀ W, Below w.heap.size w W → Calls Try.prog 52 #[.pointer (some ⟨q, 0, none⟩)] W fun e w' => w' = W ∧ e = .returned (.int .i64 (us : Nat))) := Lib.hid fun W h => by
    have := rused_at (HR.out W h) hl bs hbl hb (fun j => Nat.le_trans (hsum j) (by omega))
    rw [hus] at this
    exact this
  have HUD : Hid (∀ W, Below w.heap.size w W → Calls Try.prog 34 #[.pointer (some ⟨p, 0, none⟩)] W fun e w' => e = .returned (.int .i64 (us : Int)) ∧ Below W.heap.size W w') := Lib.hid fun W h => by
    have := used_at (HD.out W h)
    rw [hused] at this
    exact this
  have HSD : Hid (∀ W, Below w.heap.size w W → Calls Try.prog 35 #[.pointer (some ⟨p, 0, none⟩)] W fun e w' => e = .returned (.int .i64 sz) ∧ w' = W) := Lib.hid fun W h => by
    have := dsize_at (HD.out W h)
    rw [hsz] at this
    exact this
  have HWD : Hid (∀ W, Below w.heap.size w W → Calls Try.prog 29 #[.pointer (some ⟨p, 0, none⟩)] W fun e w' => e = .returned (.int .i64 wr) ∧ w' = W) := Lib.hid fun W h => by
    have := writes_at (HD.out W h)
    rw [hwr] at this
    exact this
  have HTD : Hid (∀ W, Below w.heap.size w W → Calls Try.prog 25 #[.pointer (some ⟨p, 0, none⟩)] W fun e w' => e = .returned (.bool false) ∧ w' = W) := Lib.hid fun W h => by
    have := stopped_at (HD.out W h)
    rw [hleft] at this
    exact this
  have HLD : Hid (∀ W, Below w.heap.size w W → Calls Try.prog 30 #[.pointer (some ⟨p, 0, none⟩), .string (str k)] W fun e w' => e = .returned (.int .i64 (x.length : Nat)) ∧ Below W.heap.size W w') := Lib.hid fun W h => by
    have := loose_at (HD.out W h) k (by omega)
    rw [hloose] at this
    exact this
  have HRD : Hid (∀ W, Below w.heap.size w W → Calls Try.prog 23 #[.pointer (some ⟨p, 0, none⟩), .string (str k)] W (ReadS W (x, c))) := Lib.hid fun W h => by
    have := readS_at (HD.out W h) k (by omega)
    rw [hread] at this
    exact this
  have HCC : Hid (∀ W, Below w.heap.size w W → W.cell? ⟨q, 0, none⟩ = some (.int .i64 sz) ∧ W.cell? ⟨q, 2, none⟩ = some (.int .i64 (-1)) ∧ W.cell? ⟨q, 3, none⟩ = some (.int .i64 wr)) := Lib.hid fun W hW => by
    obtain ⟨v, h1, _⟩ := HR.out W hW
    exact ⟨cell_blk h1 0, cell_blk h1 2, cell_blk h1 3⟩
  have HLEN : Hid (d.fs.length = rs.length) := Lib.hid (by have := congrArg List.length hnm; simpa [names] using this)
  clear hd hr hRR hRL hnm hshort hbl hb hsum hus hused hread hloose hleft hwr hsz
  generalize hxn : x.length = xn at *
  have HXN := Lib.hid hxn
  clear hxn
  go_enter Try.func16, Try.ntmps16
  go_wp2_with fail
  refine (namesS_at (HD.out w (Below.refl _ _))).mono ?_
  rintro e w1 ⟨v1, rfl, r1, s1, b1⟩
  obtain ⟨A1, c1, rfl, rd1, _, _⟩ := own_rd r1
  have R1 := Lib.hid r1; have S1 := Lib.hid s1; have B1 := Lib.hid b1; have RD1 := Lib.hid rd1
  clear r1 s1 b1 rd1
  go_wp2_with fail
  refine (HRD.out w1 B1.out).mono ?_
  rintro e w2 ⟨v2, rfl, r2, s2, b2⟩
  rw [HXN.out] at r2 s2
  obtain ⟨A2, c2, rfl, rd2, n2, _⟩ := own_rd r2
  have R2 := Lib.hid r2; have S2 := Lib.hid s2; have B2 := Lib.hid b2; have RD2 := Lib.hid rd2; have N2 := Lib.hid n2
  have B02 := Lib.hid (B1.out.trans (b2.mono B1.out.size))
  clear r2 s2 b2 rd2 n2
  go_wp2_with fail
  refine (HRR.out w2 B02.out).mono ?_
  rintro e w3 ⟨b3, v3, rfl, r3⟩
  obtain ⟨A3, c3, rfl, rd3, n3, _⟩ := own_rd r3
  have R3 := Lib.hid r3; have B3 := Lib.hid b3; have RD3 := Lib.hid rd3; have N3 := Lib.hid n3
  have B03 := Lib.hid (B02.out.trans (b3.mono B02.out.size))
  clear r3 b3 rd3 n3
  go_wp2_with fail
  refine (rnames_at (HR.out w3 B03.out) hl).mono ?_
  rintro e w4 ⟨v4, rfl, r4, b4⟩
  obtain ⟨A4, c4, rfl, rd4, _, _⟩ := own_rd r4
  have RD4 := Lib.hid rd4; have B4 := Lib.hid b4
  have B04 := Lib.hid (B03.out.trans (b4.mono B03.out.size))
  have B14 : Hid (Below w1.heap.size w1 w4) := Lib.hid (B2.out.trans ((B3.out.trans (b4.mono B3.out.size)).mono B2.out.size))
  have B24 : Hid (Below w2.heap.size w2 w4) := Lib.hid (B3.out.trans (b4.mono B3.out.size))
  have HSAME : Hid (Calls Try.prog 19 #[.slice A1 d.fs.length c1, .slice A4 rs.length c4] w4 fun e w' => e = .returned (.bool true) ∧ Below w4.heap.size w4 w') := Lib.hid (by
    have hrl : rs.length = (names d.fs).length := by rw [HNM.out, List.length_map]
    have := same_texts (names d.fs) rs.length hrl (by omega) A1 A4 c1 c4 w4.heap.size w4 ((RD1.out.below B14.out).up B14.out.size) (by rw [HNM.out]; exact RD4.out) (Nat.le_refl _)
    rw [HLEN.out]
    exact this)
  clear r4 b4 rd4
  go_wp2_with fail
  refine HSAME.out.mono ?_
  rintro e w5 ⟨rfl, b5⟩
  have B45 := Lib.hid b5
  have B15 := Lib.hid (B14.out.trans (b5.mono B14.out.size))
  have B25 := Lib.hid (B24.out.trans (b5.mono B24.out.size))
  have B35 : Hid (Below w3.heap.size w3 w5) := Lib.hid (B4.out.trans (b5.mono B4.out.size))
  have B05 := Lib.hid (B04.out.trans (b5.mono B04.out.size))
  have HSB : Hid (Calls Try.prog 27 #[.slice A2 xn c2, .slice A3 xn c3] w5 fun e w' => e = .returned (.bool true) ∧ w5 = w') := Lib.hid (by
    have := same_bytes x x A2 A3 xn xn c2 c3 w5 w2.heap.size w3.heap.size HXN.out.symm HXN.out.symm (RD2.out.bs.below B25.out) (fun h => List.eq_nil_of_length_eq_zero (by rw [HXN.out]; exact N2.out h)) (RD3.out.bs.below B35.out) (fun h => List.eq_nil_of_length_eq_zero (by rw [HXN.out]; exact N3.out h))
    rw [decide_eq_true rfl] at this
    exact this)
  clear b5
  go_wp2_with fail
  refine HSB.out.mono ?_
  rintro e w6 ⟨rfl, rfl⟩
  have HOT := Lib.hid (overT_at (own_below R1.out B15.out) (S1.out.kept (grown_below B15.out none) (by cases hq : (Value.slice A1 d.fs.length c1).ownBlock <;> simp)) HSH.out)
  go_wp2_with fail
  refine HOT.out.mono ?_
  rintro e w7 ⟨rfl, g7⟩
  have hl1 := fun g h => R1.out.lt g h
  have hne : (Value.slice A2 xn c2).ownBlock = none ∨ (Value.slice A2 xn c2).ownBlock ≠ (Value.slice A1 d.fs.length c1).ownBlock := by
    cases hq : (Value.slice A2 xn c2).ownBlock with
    | none => exact .inl rfl
    | some g =>
      refine .inr fun e => ?_
      have h1 := (R2.out.lt g hq).1
      have h2 := (hl1 g e.symm).2
      omega
  have B07 : Hid (Below w.heap.size w w7) := Lib.hid (B05.out.grown g7 B05.out.size fun k hk => (hl1 k hk).1)
  have HOB := Lib.hid (overB_at ((own_below R2.out B25.out).kept g7 hne) ((S2.out.kept (grown_below B25.out none) (by cases hq : (Value.slice A2 xn c2).ownBlock <;> simp)).kept g7 hne))
  clear g7 hl1 hne
  go_wp2_with fail
  refine HOB.out.mono ?_
  rintro e w8 ⟨rfl, g8⟩
  have B08 : Hid (Below w.heap.size w w8) := Lib.hid (B07.out.grown g8 B07.out.size fun k hk => Nat.le_trans B1.out.size (R2.out.lt k hk).1)
  clear g8
  have HB8 : Hid (∀ W, Below w8.heap.size w8 W → Below w.heap.size w W) := Lib.hid fun W hW => B08.out.trans (hW.mono B08.out.size)
  go_upto_region 8 with (fail)
  apply wp_region_relH (H := []) 43 [(Sum.inl _ : TT), (Sum.inl _ : TT), (Sum.inl _ : TT), (Sum.inl _ : TT), (Sum.inl _ : TT), (Sum.inl _ : TT), (Sum.inl _ : TT), (Sum.inl _ : TT), (Sum.inl _ : TT), (Sum.inl _ : TT), (Sum.inl _ : TT), (Sum.inl _ : TT), (Sum.inl _ : TT), (Sum.inl _ : TT), (Sum.inl _ : TT), (Sum.inl _ : TT), (Sum.inl _ : TT), (Sum.inl _ : TT), (Sum.inl _ : TT), (Sum.inl _ : TT), (Sum.inl _ : TT), (Sum.inl _ : TT), (Sum.inl _ : TT), (Sum.inl _ : TT), (Sum.inl _ : TT), (Sum.inl _ : TT), (Sum.inl _ : TT), (Sum.inl _ : TT), (Sum.inl _ : TT), (Sum.inl _ : TT), (Sum.inl _ : TT), (Sum.inl _ : TT), (Sum.inl _ : TT), (Sum.inl _ : TT), (Sum.inl _ : TT), (Sum.inl _ : TT), (Sum.inl _ : TT), (Sum.inl _ : TT), (Sum.inl _ : TT), (Sum.inl _ : TT), (Sum.inl _ : TT), (Sum.inl _ : TT), (Sum.inl _ : TT)] (by kernel_rfl) (by kernel_rfl) (fun _ _ _ _ _ h => h) rfl
  simp only [List.take_succ_cons, List.take_zero, List.drop_succ_cons, List.drop_zero]
  iterate 1 (apply rel_isS; (intro W hW hf; go_simp; first | exact ⟨StayS.refl _ _, rfl⟩ | rfl); simp only [Act.put, List.setIfInBounds_toArray, List.set_cons_succ, List.set_cons_zero])
  apply rel_isS
  · intro W hW hf
    exact rel_callS hW (by first | rfl | (go_simp; done) | (go_simp; simp)) (by go_simp <;> first | rfl | exact ⟨rfl, rfl⟩ | exact ⟨rfl, rfl, rfl⟩) ((HUD.out W (HB8.out W hW)).mono fun e w'' h => ⟨_, h.1, h.2, rfl⟩)
  simp only [Act.put, List.setIfInBounds_toArray, List.set_cons_succ, List.set_cons_zero]
  iterate 1 (apply rel_isS; (intro W hW hf; go_simp; first | exact ⟨StayS.refl _ _, rfl⟩ | rfl); simp only [Act.put, List.setIfInBounds_toArray, List.set_cons_succ, List.set_cons_zero])
  apply rel_isS
  · intro W hW hf
    exact rel_callS hW (by first | rfl | (go_simp; done) | (go_simp; simp)) (by go_simp <;> first | rfl | exact ⟨rfl, rfl⟩ | exact ⟨rfl, rfl, rfl⟩) ((HUR.out W (HB8.out W hW)).mono fun e w'' h => ⟨_, h.2, h.1 ▸ Below.refl _ _, rfl⟩)
  simp only [Act.put, List.setIfInBounds_toArray, List.set_cons_succ, List.set_cons_zero]
  iterate 3 (apply rel_isS; (intro W hW hf; go_simp; first | exact ⟨StayS.refl _ _, rfl⟩ | rfl); simp only [Act.put, List.setIfInBounds_toArray, List.set_cons_succ, List.set_cons_zero])
  apply rel_isS
  · intro W hW hf
    exact rel_callS hW (by first | rfl | (go_simp; done) | (go_simp; simp)) (by go_simp <;> first | rfl | exact ⟨rfl, rfl⟩ | exact ⟨rfl, rfl, rfl⟩) ((HSD.out W (HB8.out W hW)).mono fun e w'' h => ⟨_, h.1, h.2 ▸ Below.refl _ _, rfl⟩)
  simp only [Act.put, List.setIfInBounds_toArray, List.set_cons_succ, List.set_cons_zero]
  iterate 9 (apply rel_isS; (intro W hW hf; obtain ⟨z1, z2, z3⟩ := HCC.out W (HB8.out W hW); go_simp; first | exact ⟨StayS.refl _ _, rfl⟩ | rfl); simp only [Act.put, List.setIfInBounds_toArray, List.set_cons_succ, List.set_cons_zero])
  apply rel_isS
  · intro W hW hf
    exact rel_callS hW (by first | rfl | (go_simp; done) | (go_simp; simp)) (by go_simp <;> first | rfl | exact ⟨rfl, rfl⟩ | exact ⟨rfl, rfl, rfl⟩) ((HLD.out W (HB8.out W hW)).mono fun e w'' h => ⟨_, h.1, h.2, rfl⟩)
  simp only [Act.put, List.setIfInBounds_toArray, List.set_cons_succ, List.set_cons_zero]
  iterate 2 (apply rel_isS; (intro W hW hf; go_simp; first | exact ⟨StayS.refl _ _, rfl⟩ | rfl); simp only [Act.put, List.setIfInBounds_toArray, List.set_cons_succ, List.set_cons_zero])
  apply rel_isS
  · intro W hW hf
    exact rel_callS hW (by first | rfl | (go_simp; done) | (go_simp; simp)) (by go_simp <;> first | rfl | exact ⟨rfl, rfl⟩ | exact ⟨rfl, rfl, rfl⟩) ((HRL.out W (HB8.out W hW)).mono fun e w'' h => ⟨_, h.1, h.2, rfl⟩)
  simp only [Act.put, List.setIfInBounds_toArray, List.set_cons_succ, List.set_cons_zero]
  iterate 4 (apply rel_isS; (intro W hW hf; go_simp; first | exact ⟨StayS.refl _ _, rfl⟩ | rfl); simp only [Act.put, List.setIfInBounds_toArray, List.set_cons_succ, List.set_cons_zero])
  apply rel_isS
  · intro W hW hf
    exact rel_callS hW (by first | rfl | (go_simp; done) | (go_simp; simp)) (by go_simp <;> first | rfl | exact ⟨rfl, rfl⟩ | exact ⟨rfl, rfl, rfl⟩) ((HTD.out W (HB8.out W hW)).mono fun e w'' h => ⟨_, h.1, h.2 ▸ Below.refl _ _, rfl⟩)
  simp only [Act.put, List.setIfInBounds_toArray, List.set_cons_succ, List.set_cons_zero]
  iterate 9 (apply rel_isS; (intro W hW hf; obtain ⟨z1, z2, z3⟩ := HCC.out W (HB8.out W hW); go_simp; first | exact ⟨StayS.refl _ _, rfl⟩ | rfl); simp only [Act.put, List.setIfInBounds_toArray, List.set_cons_succ, List.set_cons_zero])
  apply rel_isS
  · intro W hW hf
    exact rel_callS hW (by first | rfl | (go_simp; done) | (go_simp; simp)) (by go_simp <;> first | rfl | exact ⟨rfl, rfl⟩ | exact ⟨rfl, rfl, rfl⟩) ((HWD.out W (HB8.out W hW)).mono fun e w'' h => ⟨_, h.1, h.2 ▸ Below.refl _ _, rfl⟩)
  simp only [Act.put, List.setIfInBounds_toArray, List.set_cons_succ, List.set_cons_zero]
  iterate 7 (apply rel_isS; (intro W hW hf; obtain ⟨z1, z2, z3⟩ := HCC.out W (HB8.out W hW); go_simp; first | exact ⟨StayS.refl _ _, rfl⟩ | rfl); simp only [Act.put, List.setIfInBounds_toArray, List.set_cons_succ, List.set_cons_zero])
  refine rel_endS ?_
  intro W hW hf
  try simp only [Act.put, List.setIfInBounds_toArray, List.set_cons_succ, List.set_cons_zero]
  refine wpList_nil ?_
  have HW9 := Lib.hid (HB8.out W hW)
  clear hW hf
  go_wp2_with fail
  go_ret
  exact ⟨rfl, HW9.out⟩
end Go.Proofs.Ytdmodhcbcpmadaa
end

section
set_option linter.unusedSimpArgs false
set_option linter.unusedVariables false
namespace Go.Proofs.Ytdmodhcbcpmadaa
open Go.RowKit

structure FF (sz i : Nat) (d : Dk) (rs : List (Nm × Value)) : Prop where
  size : d.size = sz
  left : d.left = -1
  writes : d.writes = min i 256
  nms : names d.fs = rs.map (·.1)
  zero : ∀ f ∈ d.fs, f.2 = fl0
  sl : ∀ x ∈ rs, ∃ A c, x.2 = .slice A 0 c
  len : rs.length = min i 256
  known : ∀ x ∈ rs, ∃ j, j < i ∧ x.1 = nmI j
theorem total_zero : ∀ {l : Nl Fl}, (∀ f ∈ l, f.2 = fl0) → total flen l = 0
  | [], _ => rfl
  | a :: l, h => by
    rw [total_cons, total_zero fun f hf => h f (by simp [hf]), h a (by simp)]
    rfl
theorem FF.used {sz i : Nat} {d : Dk} {rs : List (Nm × Value)} (h : FF sz i d rs) : d.used = 0 := total_zero h.zero
theorem FF.flen {sz i : Nat} {d : Dk} {rs : List (Nm × Value)} (h : FF sz i d rs) : d.fs.length = min i 256 := by
  have := congrArg List.length h.nms
  rw [← h.len]
  simpa [names] using this
theorem FF.new {sz i : Nat} {d : Dk} {rs : List (Nm × Value)} (h : FF sz i d rs) {k : Nm} (hk : ∀ j, j < i → nmI j ≠ k) : ∀ x ∈ rs, x.1 ≠ k := fun x hx e => by
  obtain ⟨j, h1, h2⟩ := h.known x hx
  exact hk j h1 (h2.symm.trans e)
theorem FF.newd {sz i : Nat} {d : Dk} {rs : List (Nm × Value)} (h : FF sz i d rs) {k : Nm} (hk : ∀ j, j < i → nmI j ≠ k) : ∀ f ∈ d.fs, f.1 ≠ k := fun f hf e => by
  have : f.1 ∈ names d.fs := List.mem_map_of_mem hf
  rw [h.nms] at this
  obtain ⟨x, hx, e2⟩ := List.mem_map.1 this
  exact h.new hk x hx (e2.trans e)
theorem has_new {d : Dk} {k : Nm} (h : ∀ f ∈ d.fs, f.1 ≠ k) : d.has k = false := by
  unfold Dk.has
  cases e : nget d.fs k with
  | none => rfl
  | some a => exact absurd rfl (h _ (nget_mem e))
def newFl (b : List UInt8) : Fl := ⟨b, 0, false⟩
theorem FF.app {sz i : Nat} {d : Dk} {rs : List (Nm × Value)} (h : FF sz i d rs) {k : Nm} (hok : nameOk k = true) (hk : ∀ j, j < i → nmI j ≠ k) (b : List UInt8) :
    d.append k b = if 256 ≤ min i 256 ∨ sz < b.length then (d, 8) else (⟨sz, nins (k, newFl b) d.fs, -1, min i 256 + 1⟩, 0) := by
  have h0 := has_new (h.newd hk)
  have hf := (file_none h0).2
  unfold Dk.append
  rw [if_neg (by rw [hok]; decide)]
  by_cases hfull : 256 ≤ min i 256 ∨ sz < b.length
  · rw [if_pos hfull, if_pos]
    rcases hfull with h1 | h1
    · exact .inl ⟨h0, by rw [h.flen]; exact h1⟩
    · exact .inr (by rw [h.used, h.size]; omega)
  · rw [if_neg hfull, if_neg]
    · unfold Dk.wr
      rw [if_neg (by rw [h.left]; decide), hf]
      unfold Dk.tick nput
      rw [ndel_none (h.newd hk), h.left, h.size, h.writes]
      rfl
    · rintro (h1 | h1)
      · exact hfull (.inl (by rw [← h.flen]; exact h1.2))
      · rw [h.used, h.size] at h1
        exact hfull (.inr (by omega))
/-- the list behind a new file. -/
def rsPut (rs : List (Nm × Value)) (i0 : Nat) (k : Nm) (v : Value) : List (Nm × Value) := rs.take i0 ++ (k, v) :: rs.drop i0
theorem mem_rsPut {rs : List (Nm × Value)} {i0 : Nat} {k : Nm} {v : Value} {x : Nm × Value} : x ∈ rsPut rs i0 k v ↔ x ∈ rs ∨ x = (k, v) := by
  unfold rsPut
  rw [List.mem_append, List.mem_cons]
  have : x ∈ rs ↔ x ∈ rs.take i0 ∨ x ∈ rs.drop i0 := by rw [← List.mem_append, List.take_append_drop]
  rw [this]
  constructor
  · rintro (h | h | h)
    · exact .inl (.inl h)
    · exact .inr h
    · exact .inl (.inr h)
  · rintro ((h | h) | h)
    · exact .inl h
    · exact .inr (.inr h)
    · exact .inr (.inl h)
theorem len_rsPut (rs : List (Nm × Value)) (i0 : Nat) (k : Nm) (v : Value) : (rsPut rs i0 k v).length = rs.length + 1 := by
  unfold rsPut
  simp only [List.length_append, List.length_cons, List.length_take, List.length_drop]
  omega
theorem putat_set {k : Nm} {rs rs' : List (Nm × Value)} {j : Nat} (hp : PutAt k rs rs') (hno : ∀ x ∈ rs, x.1 ≠ k) (hj : j < rs'.length) (hk : rs'[j].1 = k) (v : Value) :
    ∃ i0, rs'.set j (k, v) = rsPut rs i0 k v ∧ rs'.map (·.1) = (rsPut rs i0 k v).map (·.1) := by
  obtain ⟨i0, h0, rfl, _⟩ := hp
  have hlt : (rs.take i0).length = i0 := by rw [List.length_take]; omega
  have e : j = i0 := by
    rcases Nat.lt_trichotomy j i0 with h | h | h
    · rw [List.getElem_append_left (by omega)] at hk
      exact absurd hk (hno _ (List.mem_of_mem_take (List.getElem_mem _)))
    · exact h
    · obtain ⟨d, rfl⟩ : ∃ d, j = i0 + 1 + d := ⟨j - (i0 + 1), by omega⟩
      rw [List.getElem_append_right (by omega)] at hk
      simp only [hlt, show i0 + 1 + d - i0 = d + 1 by omega, List.getElem_cons_succ] at hk
      exact absurd hk (hno _ (List.mem_of_mem_drop (List.getElem_mem _)))
  subst e
  refine ⟨j, ?_, ?_⟩
  · unfold rsPut
    rw [List.set_append_right _ _ (by omega), hlt, Nat.sub_self, List.set_cons_zero]
  · unfold rsPut
    simp [newF]
def lnV : Value → Nat
  | .slice _ n _ => n
  | _ => 0
def lens (rs : List (Nm × Value)) : List Nat := rs.map fun x => lnV x.2
theorem sum_zero : ∀ {l : List Nat}, (∀ x ∈ l, x = 0) → l.sum = 0
  | [], _ => rfl
  | a :: l, h => by rw [List.sum_cons, sum_zero fun x hx => h x (by simp [hx]), h a (by simp)]
theorem FF.lens0 {sz i : Nat} {d : Dk} {rs : List (Nm × Value)} (h : FF sz i d rs) : (lens rs).sum = 0 := sum_zero fun x hx => by
  obtain ⟨y, hy, rfl⟩ := List.mem_map.1 hx
  obtain ⟨A, c, e⟩ := h.sl y hy
  rw [e]; rfl
theorem sum_take_le : ∀ (l : List Nat) (j : Nat), (l.take j).sum ≤ l.sum
  | [], j => by simp
  | a :: l, 0 => by simp
  | a :: l, j + 1 => by
    rw [List.take_succ_cons, List.sum_cons, List.sum_cons]
    have := sum_take_le l j
    omega
theorem lens_rsPut (rs : List (Nm × Value)) (i0 : Nat) (k : Nm) (v : Value) : (lens (rsPut rs i0 k v)).sum = (lens rs).sum + lnV v := by
  have e : lens rs = lens (rs.take i0) ++ lens (rs.drop i0) := by
    unfold lens
    rw [← List.map_append, List.take_append_drop]
  rw [e]
  unfold rsPut lens
  rw [List.map_append, List.map_cons, List.sum_append, List.sum_append, List.sum_cons]
  show _ + (lnV v + _) = _
  omega
theorem blen_of {rs : List (Nm × Value)} (hs : ∀ x ∈ rs, ∃ A n c, x.2 = .slice A n c) : (lens rs).length = rs.length ∧ ∀ j (h1 : j < (lens rs).length) (h2 : j < rs.length), BLen (lens rs)[j] rs[j].2 := by
  refine ⟨by simp [lens], fun j h1 h2 => ?_⟩
  obtain ⟨A, n, c, e⟩ := hs rs[j] (List.getElem_mem h2)
  refine ⟨A, c, ?_⟩
  have : (lens rs)[j] = lnV rs[j].2 := by simp [lens]
  rw [this, e]
  rfl
theorem BV.below {w w' : World} {b : List UInt8} {v : Value} (h : BV w b v) (hb : Below w.heap.size w w') : BV w' b v := by
  obtain ⟨A, c, e, h1, h2⟩ := h
  exact ⟨A, c, e, (h1.below hb).more hb.size, h2⟩
/-- the reference's Append of a new file. -/
theorem fref {w : World} {q sz i : Nat} {d : Dk} {rs : List (Nm × Value)} (hr : RefAt w q sz rs (min i 256)) (hf : FF sz i d rs) (hsz : sz ≤ 100000000) (k : Nm) (k1 : 1 ≤ k.length) (k2 : k.length ≤ 40) (hk : ∀ c ∈ k, 97 ≤ c.toNat ∧ c.toNat ≤ 122) (hno : ∀ j, j < i → nmI j ≠ k)
    (b : List UInt8) (C : Option Addr) (n cap : Nat) (hnb : n = b.length) (hn : n ≤ 1000000) (hC : Bs w w.heap.size C b) (hC0 : C = none → b = []) :
    Calls Try.prog 15 #[.pointer (some ⟨q, 0, none⟩), .string (str k), .slice C n cap] w fun e w' => w.grownBy w' (some q) ∧
      (((256 ≤ min i 256 ∨ sz < b.length) ∧ e = .returned (.int .i64 8) ∧ RefAt w' q sz rs (min i 256)) ∨
       (¬ (256 ≤ min i 256 ∨ sz < b.length) ∧ e = .returned (.int .i64 0) ∧ ∃ i0 v', RefAt w' q sz (rsPut rs i0 k v') (min i 256 + 1) ∧ BV w' b v' ∧ ∀ a : Fl, names (nins (k, a) d.fs) = (rsPut rs i0 k v').map (·.1))) := by
  have hs : ∀ x ∈ rs, ∃ A n c, x.2 = .slice A n c := fun x hx => by
    obtain ⟨A, c, e⟩ := hf.sl x hx
    exact ⟨A, 0, c, e⟩
  obtain ⟨hb1, hb2⟩ := blen_of hs
  have hsum := hf.lens0
  have hts : ∀ j, ((lens rs).take j).sum ≤ 1000000 := fun j => by have := sum_take_le (lens rs) j; omega
  have hlen := hf.len
  by_cases hfull : 256 ≤ min i 256 ∨ sz < b.length
  · refine (rfull_at hr (by omega) hsz k k1 k2 hk (hf.new hno) (lens rs) hb1 hb2 hts (by omega) C n cap hn (by rw [hlen, hsum, hnb]; rcases hfull with h | h <;> omega)).mono ?_
    rintro e w' ⟨rfl, hb⟩
    exact ⟨grown_below hb _, .inl ⟨hfull, rfl, hr.below hb⟩⟩
  · refine (rok_at hr (by omega) (by omega) hsz k k1 k2 hk (hf.new hno) hs (lens rs) hb1 hb2 hts (by omega) b C n cap hnb hn hC hC0 (by rw [hsum, hnb]; omega)).mono ?_
    rintro e w' ⟨rfl, rs', j, v', hj, hp, hjk, h1, h2, h3⟩
    obtain ⟨i0, e1, e2⟩ := putat_set hp (hf.new hno) hj hjk v'
    rw [e1] at h1
    exact ⟨h3, .inr ⟨hfull, rfl, i0, v', h1, h2, fun a => (putat_names a rs rs' d.fs hf.nms hp).trans e2⟩⟩
theorem nmI_ok {i : Nat} (hi : i < 300) : nameOk (nmI i) = true := by
  have h := nmI_letters hi
  unfold nameOk
  rw [Bool.and_eq_true, Bool.and_eq_true]
  refine ⟨⟨rfl, rfl⟩, List.all_eq_true.2 fun c hc => ?_⟩
  have := h c hc
  unfold okc
  rw [decide_eq_true (show 97 ≤ c.toNat ∧ c.toNat ≤ 122 from this)]
  rfl
end Go.Proofs.Ytdmodhcbcpmadaa
end

section
set_option linter.unusedSimpArgs false
set_option linter.unusedVariables false
namespace Go.Proofs.Ytdmodhcbcpmadaa
open Go.RowKit

/-- all blocks but three stay. -/
structure F3 (p m q : Nat) (w w' : World) : Prop where
  os : w'.os = w.os
  tape : w'.tape = w.tape
  output : w'.output = w.output
  size : w.heap.size ≤ w'.heap.size
  block : ∀ g, g < w.heap.size → g ≠ p → g ≠ m → g ≠ q → w'.heap[g]? = w.heap[g]?
theorem F3.of_below (p m q : Nat) (w w' : World) (h : Below w.heap.size w w') : F3 p m q w w' := ⟨h.os, h.tape, h.output, h.size, fun g hg _ _ _ => h.block g hg⟩
theorem F3.bel {p m q B : Nat} {w0 w w' : World} (hf : F3 p m q w w') (h : Below B w0 w) (hp : B ≤ p) (hm : B ≤ m) (hq : B ≤ q) (hB : B ≤ w0.heap.size) : Below B w0 w' :=
  ⟨hf.os.trans h.os, hf.tape.trans h.tape, hf.output.trans h.output, Nat.le_trans h.size hf.size, fun g hg => (hf.block g (by have := h.size; omega) (by omega) (by omega) (by omega)).trans (h.block g hg)⟩
/-- i files are there. -/
def FSt (p m q sz i : Nat) (w : World) : Prop := ∃ d rs, DiskAt w p m d ∧ RefAt w q sz rs (min i 256) ∧ FF sz i d rs
theorem FSt.below {p m q sz i : Nat} {w w' : World} (h : FSt p m q sz i w) (hb : Below w.heap.size w w') : FSt p m q sz i w' := by
  obtain ⟨d, rs, h1, h2, h3⟩ := h
  exact ⟨d, rs, h1.below hb, h2.below hb, h3⟩
/-- behind the disk's Append. -/
def FMid (p m q sz i : Nat) (k : Nm) (b : List UInt8) (w : World) : Prop := ∃ d rs, DiskAt w p m (d.append k b).1 ∧ RefAt w q sz rs (min i 256) ∧ FF sz i d rs
theorem FMid.below {p m q sz i : Nat} {k : Nm} {b : List UInt8} {w w' : World} (h : FMid p m q sz i k b w) (hb : Below w.heap.size w w') : FMid p m q sz i k b w' := by
  obtain ⟨d, rs, h1, h2, h3⟩ := h
  exact ⟨d, rs, h1.below hb, h2.below hb, h3⟩
def codeF (sz i n : Nat) : Int := if 256 ≤ min i 256 ∨ sz < n then 8 else 0
theorem disk_app {p m q sz i : Nat} {w : World} (h : FSt p m q sz i w) (k : Nm) (hok : nameOk k = true) (hk : k.length ≤ 40) (hno : ∀ j, j < i → nmI j ≠ k) (b : List UInt8) (C : Option Addr) (n cap : Nat) (hnb : n = b.length) (hn : n ≤ 1000000) (hC : Bs w w.heap.size C b) (hC0 : C = none → b = []) :
    Calls Try.prog 14 #[.pointer (some ⟨p, 0, none⟩), .string (str k), .slice C n cap] w fun e w' => e = .returned (.int .i64 (codeF sz i n)) ∧ FMid p m q sz i k b w' ∧ F3 p m q w w' ∧ Dw w w' p m := by
  obtain ⟨d, rs, h1, h2, h3⟩ := h
  have hpne : ∀ cs, w.heap[p]? ≠ some (.cells cs 74 (0, 0)) ∧ w.heap[p]? ≠ some (.cells cs 83 (0, 0)) := fun cs => by
    constructor <;> (intro e; rw [h1.own] at e; injection e with e; injection e with _ e _; exact absurd e (by decide))
  have hmne : ∀ cs, w.heap[m]? ≠ some (.cells cs 74 (0, 0)) ∧ w.heap[m]? ≠ some (.cells cs 83 (0, 0)) := fun cs => by
    obtain ⟨vs, hm, _⟩ := h1.files
    obtain ⟨es, c, h3, _⟩ := hm
    constructor <;> (intro e; rw [h3] at e; cases e)
  refine (append_at h1 (by rw [h3.writes]; omega) k (by omega) b n hnb (by omega) C cap hC hC0).mono ?_
  rintro e w' ⟨rfl, h4, h5⟩
  refine ⟨?_, ⟨d, rs, h4, h2.dw h5 hpne hmne, h3⟩, ⟨h5.os, h5.tape, h5.output, h5.size, fun g hg hp hm _ => h5.block g hg hp hm⟩, h5⟩
  rw [h3.app hok hno b, hnb]
  unfold codeF
  split <;> rfl
theorem ref_app {p m q sz i : Nat} {w : World} {k : Nm} {b : List UInt8} (h : FMid p m q sz i k b w) (hok : nameOk k = true) (hsz : sz ≤ 100000000) (k1 : 1 ≤ k.length) (k2 : k.length ≤ 40) (hk : ∀ c ∈ k, 97 ≤ c.toNat ∧ c.toNat ≤ 122) (hno : ∀ j, j < i → nmI j ≠ k)
    (C : Option Addr) (n cap : Nat) (hnb : n = b.length) (hn : n ≤ 1000000) (hC : Bs w w.heap.size C b) (hC0 : C = none → b = []) :
    Calls Try.prog 15 #[.pointer (some ⟨q, 0, none⟩), .string (str k), .slice C n cap] w fun e w' => e = .returned (.int .i64 (codeF sz i n)) ∧ F3 p m q w w' ∧ w.grownBy w' (some q) ∧ ∃ d rs, FF sz i d rs ∧ DiskAt w' p m (d.append k b).1 ∧
      (((256 ≤ min i 256 ∨ sz < b.length) ∧ RefAt w' q sz rs (min i 256)) ∨
       (¬ (256 ≤ min i 256 ∨ sz < b.length) ∧ ∃ i0 v', RefAt w' q sz (rsPut rs i0 k v') (min i 256 + 1) ∧ BV w' b v' ∧ ∀ a : Fl, names (nins (k, a) d.fs) = (rsPut rs i0 k v').map (·.1))) := by
  obtain ⟨d, rs, h1, h2, h3⟩ := h
  refine (fref h2 h3 hsz k k1 k2 hk hno b C n cap hnb hn hC hC0).mono ?_
  rintro e w' ⟨hg, hc⟩
  have hF : F3 p m q w w' := ⟨hg.os, hg.tape, hg.output, hg.size, fun g hg' _ _ hq => hg.block g hg' (by simpa using hq)⟩
  have hD := h1.kept_ref h2 hg
  rcases hc with ⟨a1, rfl, a2⟩ | ⟨a1, rfl, a2⟩
  · exact ⟨by unfold codeF; rw [hnb, if_pos a1], hF, hg, d, rs, h3, hD, .inl ⟨a1, a2⟩⟩
  · exact ⟨by unfold codeF; rw [hnb, if_neg a1], hF, hg, d, rs, h3, hD, .inr ⟨a1, a2⟩⟩
/-- one more file of no bytes. -/
theorem fst_step {p m q sz i : Nat} {w : World} (hi : i < 300) (hsz : 1 ≤ sz) (h : ∃ d rs, FF sz i d rs ∧ DiskAt w p m (d.append (nmI i) []).1 ∧
      (((256 ≤ min i 256 ∨ sz < ([] : List UInt8).length) ∧ RefAt w q sz rs (min i 256)) ∨
       (¬ (256 ≤ min i 256 ∨ sz < ([] : List UInt8).length) ∧ ∃ i0 v', RefAt w q sz (rsPut rs i0 (nmI i) v') (min i 256 + 1) ∧ BV w [] v' ∧ ∀ a : Fl, names (nins (nmI i, a) d.fs) = (rsPut rs i0 (nmI i) v').map (·.1)))) : FSt p m q sz (i + 1) w := by
  obtain ⟨d, rs, h3, h1, hc⟩ := h
  have hno : ∀ j, j < i → nmI j ≠ nmI i := fun j hj e => by have := nmI_inj (by omega) hi e; omega
  rw [h3.app (nmI_ok hi) hno] at h1
  simp only [List.length_nil, Nat.not_lt_zero, or_false] at h1 hc
  rcases hc with ⟨a1, a2⟩ | ⟨a1, i0, v', a2, ⟨A, c, rfl, _, _⟩, a4⟩
  · rw [if_pos a1] at h1
    have e : min (i + 1) 256 = min i 256 := by omega
    exact ⟨d, rs, h1, by rw [e]; exact a2, h3.size, h3.left, by rw [e]; exact h3.writes, h3.nms, h3.zero, h3.sl, by rw [e]; exact h3.len, fun x hx => by
      obtain ⟨j, hj, e⟩ := h3.known x hx
      exact ⟨j, by omega, e⟩⟩
  · rw [if_neg a1] at h1
    have e : min (i + 1) 256 = min i 256 + 1 := by omega
    refine ⟨_, _, h1, by rw [e]; exact a2, rfl, rfl, e.symm, a4 _, fun f hf => ?_, fun x hx => ?_, ?_, fun x hx => ?_⟩
    · rcases mem_nins.1 hf with rfl | hf
      · rfl
      · exact h3.zero f hf
    · rcases mem_rsPut.1 hx with hx | rfl
      · exact h3.sl x hx
      · exact ⟨A, c, rfl⟩
    · rw [len_rsPut, h3.len, e]
    · rcases mem_rsPut.1 hx with hx | rfl
      · obtain ⟨j, hj, e⟩ := h3.known x hx
        exact ⟨j, by omega, e⟩
      · exact ⟨i, by omega, rfl⟩
theorem names_short {sz i : Nat} {d : Dk} {rs : List (Nm × Value)} (h : FF sz i d rs) : ∀ x ∈ names d.fs, x.length ≤ 1000 := fun x hx => by
  rw [h.nms] at hx
  obtain ⟨y, hy, rfl⟩ := List.mem_map.1 hx
  obtain ⟨j, _, e⟩ := h.known y hy
  rw [e]
  show 2 ≤ 1000
  omega
def FEnd (p q : Nat) (w : World) : Prop := ∀ W, Below w.heap.size w W → Calls Try.prog 16 #[.pointer (some ⟨p, 0, none⟩), .pointer (some ⟨q, 0, none⟩), .string (str bigN)] W fun e w' => e = .returned (.bool true) ∧ Below W.heap.size W w'
theorem FEnd.keeps (p q : Nat) {w w' : World} (h : FEnd p q w) (hb : Below w.heap.size w w') : FEnd p q w' := fun W hW => h W (hb.trans (hW.mono hb.size))
theorem fend {p m q sz i : Nat} {w : World} {b : List UInt8} (hi : i ≤ 300) (hb : b.length ≤ 3000) (h : ∃ d rs, FF sz i d rs ∧ DiskAt w p m (d.append bigN b).1 ∧
      (((256 ≤ min i 256 ∨ sz < b.length) ∧ RefAt w q sz rs (min i 256)) ∨
       (¬ (256 ≤ min i 256 ∨ sz < b.length) ∧ ∃ i0 v', RefAt w q sz (rsPut rs i0 bigN v') (min i 256 + 1) ∧ BV w b v' ∧ ∀ a : Fl, names (nins (bigN, a) d.fs) = (rsPut rs i0 bigN v').map (·.1)))) : FEnd p q w := by
  obtain ⟨d, rs, h3, h1, hc⟩ := h
  have hno : ∀ j, j < i → nmI j ≠ bigN := fun j _ => nmI_big j
  have hs : ∀ x ∈ rs, ∃ A n c, x.2 = .slice A n c := fun x hx => by
    obtain ⟨A, c, e⟩ := h3.sl x hx
    exact ⟨A, 0, c, e⟩
  rw [h3.app (by decide) hno] at h1
  intro W hW
  rcases hc with ⟨a1, a2⟩ | ⟨a1, i0, v', a2, a3, a4⟩
  · rw [if_pos a1] at h1
    have hh := has_new (h3.newd hno)
    obtain ⟨hb1, hb2⟩ := blen_of hs
    have hR := a2.below hW
    refine told_full (h1.below hW) hR (by rw [h3.len]; omega) h3.size h3.writes h3.left h3.nms (names_short h3) (lens rs) hb1 hb2 (fun j => by have := sum_take_le (lens rs) j; have := h3.lens0; omega) h3.lens0 h3.used bigN (by decide) [] 6 (by simp) (by unfold Dk.read; rw [if_pos hh]) (by unfold Dk.loose; rw [(file_none hh).2]; rfl) (fun W2 hW2 => ?_) (fun W2 hW2 => ?_)
    · refine (rread_at (hR.below hW2) (by rw [h3.len]; omega) bigN [] (by simp) (fun j hj e => absurd e (h3.new hno _ (List.getElem_mem hj)))).mono ?_
      rintro e w' ⟨hb', hc⟩
      rcases hc with ⟨⟨x, hx, e⟩, _⟩ | ⟨_, rfl⟩
      · exact absurd e (h3.new hno x hx)
      · exact ⟨hb', _, rfl, World.ownsRow_nil _ _ _ _⟩
    · refine (rloose_at (hR.below hW2) (by rw [h3.len]; omega) bigN 0 (by omega) (fun j hj e => absurd e (h3.new hno _ (List.getElem_mem hj)))).mono ?_
      rintro e w' ⟨hb', hc⟩
      rcases hc with ⟨⟨x, hx, e⟩, _⟩ | ⟨_, rfl⟩
      · exact absurd e (h3.new hno x hx)
      · exact ⟨rfl, hb'⟩
  · rw [if_neg a1] at h1
    have hs2 : ∀ x ∈ rsPut rs i0 bigN v', ∃ A n c, x.2 = .slice A n c := fun x hx => by
      rcases mem_rsPut.1 hx with hx | rfl
      · exact hs x hx
      · obtain ⟨A, c, e, _⟩ := a3
        exact ⟨A, b.length, c, e⟩
    obtain ⟨hb1, hb2⟩ := blen_of hs2
    have hR := a2.below hW
    have hlen : (rsPut rs i0 bigN v').length ≤ 1000 := by rw [len_rsPut, h3.len]; omega
    have hln : lnV v' = b.length := by obtain ⟨A, c, e, _⟩ := a3; rw [e]; rfl
    have hsum : (lens (rsPut rs i0 bigN v')).sum = b.length := by rw [lens_rsPut, h3.lens0, hln, Nat.zero_add]
    have hget : nget (nins (bigN, newFl b) d.fs) bigN = some (newFl b) := by
      rw [nget_ins _ _ _ (h3.newd hno)]
      simp
    have hhas : (⟨sz, nins (bigN, newFl b) d.fs, -1, min i 256 + 1⟩ : Dk).has bigN = true := by unfold Dk.has; rw [hget]; rfl
    have hfile : (⟨sz, nins (bigN, newFl b) d.fs, -1, min i 256 + 1⟩ : Dk).file bigN = newFl b := by unfold Dk.file; rw [hget]; rfl
    have hused : (⟨sz, nins (bigN, newFl b) d.fs, -1, min i 256 + 1⟩ : Dk).used = b.length := by
      unfold Dk.used
      rw [total_ins, total_zero h3.zero]
      rfl
    have hbig : ∀ j (hj : j < (rsPut rs i0 bigN v').length), (rsPut rs i0 bigN v')[j].1 = bigN → (rsPut rs i0 bigN v')[j].2 = v' := fun j hj e => by
      rcases mem_rsPut.1 (List.getElem_mem hj) with h | h
      · exact absurd e (h3.new hno _ h)
      · rw [h]
    refine told_full (h1.below hW) hR hlen rfl rfl rfl (a4 _) (fun x hx => ?_) (lens (rsPut rs i0 bigN v')) hb1 hb2 (fun j => by have := sum_take_le (lens (rsPut rs i0 bigN v')) j; omega) hsum hused bigN (by decide) b 0 (by omega) (by unfold Dk.read; rw [if_neg (by rw [hhas]; decide), hfile]; rfl) (by unfold Dk.loose; rw [hfile]; rfl) (fun W2 hW2 => ?_) (fun W2 hW2 => ?_)
    · rw [a4] at hx
      obtain ⟨y, hy, rfl⟩ := List.mem_map.1 hx
      rcases mem_rsPut.1 hy with hy | rfl
      · obtain ⟨j, _, e⟩ := h3.known y hy
        rw [e]; show 2 ≤ 1000; omega
      · show bigN.length ≤ 1000
        decide
    · refine (rread_at (hR.below hW2) hlen bigN b (by omega) (fun j hj e => by rw [hbig j hj e]; exact (a3.below hW).below hW2)).mono ?_
      rintro e w' ⟨hb', hc⟩
      rcases hc with ⟨_, v, rfl, h5⟩ | ⟨hn, _⟩
      · exact ⟨hb', v, rfl, h5⟩
      · exact absurd rfl (hn (bigN, v') (mem_rsPut.2 (.inr rfl)))
    · refine (rloose_at (hR.below hW2) hlen bigN b.length (by omega) (fun j hj e => by rw [hbig j hj e]; obtain ⟨A, c, e, _⟩ := a3; exact ⟨A, c, e⟩)).mono ?_
      rintro e w' ⟨hb', hc⟩
      rcases hc with ⟨_, rfl⟩ | ⟨hn, _⟩
      · exact ⟨rfl, hb'⟩
      · exact absurd rfl (hn (bigN, v') (mem_rsPut.2 (.inr rfl)))
end Go.Proofs.Ytdmodhcbcpmadaa
end

section
set_option linter.unusedSimpArgs false
set_option linter.unusedVariables false
namespace Go.Proofs.Ytdmodhcbcpmadaa
open Go.RowKit

/-- n zeros in a block of their own. -/
def Zer (B n : Nat) (v : Value) (w : World) : Prop := ∃ g, v = .slice (some ⟨g, 0, none⟩) n n ∧ B ≤ g ∧ w.heap[g]? = some (.cells (List.replicate n (.int .u8 0)).toArray 5 (0, 0))
theorem Zer.bs {B n : Nat} {v : Value} {w : World} (h : Zer B n v w) : ∃ A, v = .slice A n n ∧ Bs w w.heap.size A (List.replicate n 0) ∧ (A = none → List.replicate n (0 : UInt8) = []) := by
  obtain ⟨g, e, hB, hg⟩ := h
  refine ⟨some ⟨g, 0, none⟩, e, fun j hj => ⟨g, 0, rfl, lt_blk hg, ?_⟩, fun h => by cases h⟩
  rw [cell_blk hg]
  have hj' : j < n := by simpa using hj
  simp [hj', List.getD_eq_getElem?_getD]
theorem Zer.keepsF {B n p m q : Nat} (h : p < B ∧ q < B ∧ m < B) : KeepsF (F3 p m q) (Zer B n) := fun v w w' ⟨g, e, hB, hg⟩ hF => ⟨g, e, hB, (hF.block g (lt_blk hg) (by omega) (by omega) (by omega)).trans hg⟩
set_option maxRecDepth 100000 in
set_option maxHeartbeats 4000000 in
theorem diskfull_walk (sz fl mo : Int) (w : World) (h1 : (-9223372036854775808 : Int) ≤ sz ∧ sz ≤ 9223372036854775807) (h2 : (-9223372036854775808 : Int) ≤ fl ∧ fl ≤ 9223372036854775807) (h3 : (-9223372036854775808 : Int) ≤ mo ∧ mo ≤ 9223372036854775807) :
    Calls Try.prog 3 #[.int .i64 sz, .int .i64 fl, .int .i64 mo] w fun e w' => e = .returned (.bool true) ∧ Below w.heap.size w w' := by
  by_cases hout : sz < 1 ∨ 2000 < sz ∨ fl < 0 ∨ 300 < fl ∨ mo < 0 ∨ 3000 < mo
  · go_enter Try.func3, Try.ntmps3
    rcases hout with h | h | h | h | h | h
    all_goals go_wp2_with fail
    all_goals
      go_ret
      exact ⟨rfl, Below.refl _ _⟩
  · obtain ⟨s, rfl⟩ : ∃ s : Nat, sz = s := ⟨sz.toNat, by omega⟩
    obtain ⟨f, rfl⟩ : ∃ s : Nat, fl = s := ⟨fl.toNat, by omega⟩
    obtain ⟨n, rfl⟩ : ∃ s : Nat, mo = s := ⟨mo.toNat, by omega⟩
    have a1 : 1 ≤ s := by omega
    have a2 : s ≤ 2000 := by omega
    have a3 : f ≤ 300 := by omega
    have a4 : n ≤ 3000 := by omega
    clear hout h1 h2 h3
    have HNW := Lib.hid (new_at s a1 (by omega) w)
    go_enter Try.func3, Try.ntmps3
    go_wp2_with fail
    refine HNW.out.mono ?_
    rintro e w1 ⟨rfl, d1, b1⟩
    have HRN := Lib.hid (rnew_at s a1 (by omega) w1)
    have D1 := Lib.hid d1; have B1 := Lib.hid b1
    clear d1 b1
    go_wp2_with fail
    refine HRN.out.mono ?_
    rintro e w2 ⟨rfl, r2, b2⟩
    have F0 : Hid (FSt (w.heap.size + 1) w.heap.size w1.heap.size s 0 w2) := Lib.hid ⟨emptyDk s, [], D1.out.below b2, r2, rfl, rfl, rfl, rfl, by simp [emptyDk], by simp, rfl, by simp⟩
    have hps : w.heap.size + 1 < w2.heap.size := (D1.out.below b2).lt
    have hqs : w1.heap.size < w2.heap.size := lt_blk r2.choose_spec.1
    have BW : Hid (Below w.heap.size w w2) := Lib.hid (B1.out.trans (b2.mono B1.out.size))
    have HQM : Hid (w.heap.size ≤ w1.heap.size) := Lib.hid B1.out.size
    clear r2 b2
    generalize hp : w.heap.size + 1 = p at *
    have HM1 : Hid (∃ m, m = w.heap.size) := Lib.hid ⟨_, rfl⟩
    obtain ⟨m, hm⟩ := HM1.out
    rw [← hm] at F0 BW HQM
    have HM0 : Hid (m ≤ w.heap.size) := Lib.hid (by omega)
    rw [← hm] at hp
    have HMW := Lib.hid hm
    generalize hq : w1.heap.size = q at *
    have HPM : Hid (m < p) := Lib.hid (by omega)
    clear hp hm hq
    go_wp2_with fail
    go_loopw [11] (fun i wr => ∃ k : Nat, k ≤ f ∧ i = .int .i64 (k : Int) ∧ FSt p m q s k wr ∧ w2.heap.size ≤ wr.heap.size ∧ Below m w wr) (fun i _ => f - (intOf i).toNat)
    case atStart => exact ⟨0, by omega, by go_num, F0.out, Nat.le_refl _, BW.out⟩
    case round =>
      obtain ⟨k, hk, rfl, hf, hsw, hbw⟩ := hrel
      have HF := Lib.hid hf; have HSW := Lib.hid hsw; have HBW := Lib.hid hbw
      clear hf hsw hbw
      by_cases hlt : k < f
      · have hk300 : k < 300 := by omega
        have hcv := run_conv_bytes (P := Try.prog) (wr.alloc (.cells #[.int .u8 (97 + (k : Int) % 26), .int .u8 (97 + (k : Int) / 26)] 5)) 29 5 9 Try.underlying29 Try.underlying5 Try.underlying9 (wr.heap.size + 1) (some ⟨wr.heap.size, 0, none⟩) (nmI k) 2 2 rfl (fun j hj => ⟨wr.heap.size, 0, rfl, by omega, by
          rw [cell_blk (heap_alloc_new wr _)]
          have hj2 : j < 2 := hj
          unfold nmI
          match j, hj2 with
          | 0, _ =>
            have : (97 + k % 26) % 256 = 97 + k % 26 := by omega
            simp [UInt8.toNat_ofNat', this]
          | 1, _ =>
            have : (97 + k / 26) % 256 = 97 + k / 26 := by omega
            simp [UInt8.toNat_ofNat', this]⟩) (fun h => by cases h)
        have hno : ∀ j, j < k → nmI j ≠ nmI k := fun j hj e => by have := nmI_inj (by omega) hk300 e; omega
        have HNO := Lib.hid hno
        have HF1 := Lib.hid (HF.out.below (below_alloc wr (.cells #[.int .u8 (97 + (k : Int) % 26), .int .u8 (97 + (k : Int) / 26)] 5)))
        have HSW1 : Hid (w2.heap.size ≤ (wr.alloc (.cells #[.int .u8 (97 + (k : Int) % 26), .int .u8 (97 + (k : Int) / 26)] 5)).heap.size) := Lib.hid (Nat.le_trans HSW.out (below_alloc wr _).size)
        have HB1 : Hid (Below m w (wr.alloc (.cells #[.int .u8 (97 + (k : Int) % 26), .int .u8 (97 + (k : Int) / 26)] 5))) := Lib.hid (HBW.out.trans ((below_alloc wr _).mono (Nat.le_trans HM0.out HBW.out.size)))
        clear hno
        go_wp2_with fail
        refine (disk_app HF1.out (nmI k) (nmI_ok hk300) (by show 2 ≤ 40; omega) HNO.out [] none 0 0 rfl (by omega) (by intro j hj; simp at hj) (fun _ => rfl)).mono ?_
        rintro e w3 ⟨rfl, hm3, hf3, _⟩
        have HM3 := Lib.hid hm3
        have HS3 : Hid (w2.heap.size ≤ w3.heap.size) := Lib.hid (Nat.le_trans HSW1.out hf3.size)
        have HB3 := Lib.hid (hf3.bel HB1.out (Nat.le_of_lt HPM.out) (Nat.le_refl _) HQM.out HM0.out)
        clear hm3 hf3
        go_wp2_with fail
        refine (ref_app HM3.out (nmI_ok hk300) (by omega) (by show 1 ≤ 2; omega) (by show 2 ≤ 40; omega) (nmI_letters hk300) HNO.out none 0 0 rfl (by omega) (by intro j hj; simp at hj) (fun _ => rfl)).mono ?_
        rintro e w4 ⟨rfl, hf4, _, h4⟩
        have HF4 := Lib.hid (fst_step hk300 a1 h4)
        have HS4 : Hid (w2.heap.size ≤ w4.heap.size) := Lib.hid (Nat.le_trans HS3.out hf4.size)
        have HB4 := Lib.hid (hf4.bel HB3.out (Nat.le_of_lt HPM.out) (Nat.le_refl _) HQM.out HM0.out)
        clear h4 hf4
        go_wp2_with fail
        refine ⟨⟨k + 1, by omega, by go_num, HF4.out, HS4.out, HB4.out⟩, by simp [intOf]; omega⟩
      · obtain rfl : k = f := by omega
        have hzz : (List.replicate n (0 : UInt8)).length = n := List.length_replicate
        have hsx : p < wr.heap.size ∧ q < wr.heap.size ∧ m < wr.heap.size := by
          have := HSW.out
          have := HPM.out
          omega
        have HSX := Lib.hid hsx
        have hmk := fun W => run_make_el E5 n n rfl (by omega) (by decide) W
        have HMK := Lib.hid hmk
        have HZZ := Lib.hid hzz
        clear hmk hsx hzz
        go_upto_region 13 with (fail)
        apply wp_region_relG (fun W => wr.heap.size ≤ W.heap.size ∧ Below m w W) (FSt p m q s k) (F3 p m q) 13 [(Sum.inl _ : TG), (Sum.inl _ : TG), (Sum.inr (Zer wr.heap.size n, none) : TG), (Sum.inr (fun v _ => v = .int .i64 (codeF s k n), some (fun _ W => FMid p m q s k bigN (List.replicate n 0) W)) : TG), (Sum.inl _ : TG), (Sum.inl _ : TG), (Sum.inr (Zer wr.heap.size n, none) : TG), (Sum.inr (fun v _ => v = .int .i64 (codeF s k n), some (fun _ W => FEnd p q W)) : TG), (Sum.inl _ : TG), (Sum.inl _ : TG), (Sum.inl _ : TG), (Sum.inl _ : TG), (Sum.inr (fun v _ => v = .bool true, some (fun _ _ => True)) : TG)] [false, false, false, true, false, false, false, true, false, false, false, false, true] (by kernel_rfl) (by kernel_rfl) (by kernel_rfl) rfl rfl (F3.of_below p m q) (fun _ _ h hb => h.below hb) (⟨Nat.le_refl _, below_drew1 HBW.out⟩) (HF.out.below (below_drew1 (Below.refl _ _)))
        simp only [List.take_succ_cons, List.take_zero, List.drop_succ_cons, List.drop_zero]
        iterate 2 (apply rel_isG; (intro W hW hf; go_simp; first | exact ⟨⟨hW, Below.refl _ _⟩, rfl⟩ | exact ⟨Below.refl _ _, rfl⟩ | rfl); simp only [Act.put, List.setIfInBounds_toArray, List.set_cons_succ, List.set_cons_zero])
        apply rel_newG
        · intro W hW hf
          refine rel_valG (v := .slice (some ⟨W.heap.size, 0, none⟩) n n) (W' := W.alloc (.cells (List.replicate n (.int .u8 0)).toArray 5)) rfl (by have hmk := HMK.out; go_simp) ?_
          exact ⟨⟨Nat.le_trans hW.1 (below_alloc W _).size, hW.2.trans ((below_alloc W _).mono (Nat.le_trans HM0.out hW.2.size))⟩, ⟨_, rfl, hW.1, heap_alloc_new _ _⟩, below_alloc W _⟩
        · exact Zer.keepsF HSX.out
        intro v75
        simp only [Act.put, List.setIfInBounds_toArray, List.set_cons_succ, List.set_cons_zero]
        apply rel_effG
        · intro W hW hS hf
          have h75 := hf (75, Zer wr.heap.size n v75) (by simp) (by simp [Oper.looksAt, Op.operands, Call.operands])
          obtain ⟨A, rfl, hbs, hn0⟩ := h75.bs
          refine rel_callG rfl (by go_simp <;> exact ⟨rfl, rfl⟩) ?_
          exact (disk_app hS bigN (by decide) (by decide) (fun j _ => nmI_big j) (List.replicate n 0) A n n HZZ.out.symm (by omega) hbs hn0).mono fun e W' ⟨h1, h2, h3, _⟩ => ⟨_, h1, ⟨Nat.le_trans hW.1 h3.size, h3.bel hW.2 (Nat.le_of_lt HPM.out) (Nat.le_refl _) HQM.out HM0.out⟩, rfl, h3, h2⟩
        · exact fun v W W' h _ => h
        · exact fun v W W' h hb => h.below hb
        intro v76
        simp only [Act.put, List.setIfInBounds_toArray, List.set_cons_succ, List.set_cons_zero]
        iterate 2 (apply rel_isG; (intro W hW hf; go_simp; first | exact ⟨⟨hW, Below.refl _ _⟩, rfl⟩ | exact ⟨Below.refl _ _, rfl⟩ | rfl); simp only [Act.put, List.setIfInBounds_toArray, List.set_cons_succ, List.set_cons_zero])
        apply rel_newG
        · intro W hW hf
          refine rel_valG (v := .slice (some ⟨W.heap.size, 0, none⟩) n n) (W' := W.alloc (.cells (List.replicate n (.int .u8 0)).toArray 5)) rfl (by have hmk := HMK.out; go_simp) ?_
          exact ⟨⟨Nat.le_trans hW.1 (below_alloc W _).size, hW.2.trans ((below_alloc W _).mono (Nat.le_trans HM0.out hW.2.size))⟩, ⟨_, rfl, hW.1, heap_alloc_new _ _⟩, below_alloc W _⟩
        · exact Zer.keepsF HSX.out
        intro v79
        simp only [Act.put, List.setIfInBounds_toArray, List.set_cons_succ, List.set_cons_zero]
        apply rel_effG
        · intro W hW hS hf
          have h79 := hf (79, Zer wr.heap.size n v79) (by simp) (by simp [Oper.looksAt, Op.operands, Call.operands])
          obtain ⟨A, rfl, hbs, hn0⟩ := h79.bs
          refine rel_callG rfl (by go_simp <;> exact ⟨rfl, rfl⟩) ?_
          exact (ref_app hS (by decide) (by omega) (by decide) (by decide) big_letters (fun j _ => nmI_big j) A n n HZZ.out.symm (by omega) hbs hn0).mono fun e W' ⟨h1, h2, _, h3⟩ => ⟨_, h1, ⟨Nat.le_trans hW.1 h2.size, h2.bel hW.2 (Nat.le_of_lt HPM.out) (Nat.le_refl _) HQM.out HM0.out⟩, rfl, h2, fend (by omega) (by rw [HZZ.out]; omega) h3⟩
        · exact fun v W W' h _ => h
        · exact fun v W W' h hb => h.keeps _ _ hb
        intro v80
        simp only [Act.put, List.setIfInBounds_toArray, List.set_cons_succ, List.set_cons_zero]
        apply rel_isG
        · intro W hW hf
          have h76 := hf (76, fun _ => v76 = .int .i64 (codeF s k n)) (by simp) (by simp [Oper.looksAt, Op.operands, Call.operands])
          have h80 := hf (80, fun _ => v80 = .int .i64 (codeF s k n)) (by simp) (by simp [Oper.looksAt, Op.operands, Call.operands])
          simp only at h76 h80
          subst h76; subst h80
          go_simp
          first | exact ⟨⟨hW, Below.refl _ _⟩, rfl⟩ | exact ⟨Below.refl _ _, rfl⟩
        simp only [Act.put, List.setIfInBounds_toArray, List.set_cons_succ, List.set_cons_zero]
        iterate 3 (apply rel_isG; (intro W hW hf; go_simp; first | exact ⟨⟨hW, Below.refl _ _⟩, rfl⟩ | exact ⟨Below.refl _ _, rfl⟩ | rfl); simp only [Act.put, List.setIfInBounds_toArray, List.set_cons_succ, List.set_cons_zero])
        apply rel_effG
        · intro W hW hS hf
          refine rel_callG rfl (by go_simp <;> exact ⟨rfl, rfl⟩) ?_
          exact (hS W (Below.refl _ _)).mono fun e W' ⟨h1, h2⟩ => ⟨_, h1, ⟨Nat.le_trans hW.1 h2.size, hW.2.trans (h2.mono (Nat.le_trans HM0.out hW.2.size))⟩, rfl, F3.of_below _ _ _ _ _ h2, trivial⟩
        · exact fun v W W' h _ => h
        · exact fun _ _ _ _ _ => trivial
        intro v85
        simp only [Act.put, List.setIfInBounds_toArray, List.set_cons_succ, List.set_cons_zero]
        refine rel_endG ?_
        intro W hW hS hf
        try simp only [Act.put, List.setIfInBounds_toArray, List.set_cons_succ, List.set_cons_zero]
        have h85 := hf (85, fun _ => v85 = .bool true) (by simp)
        simp only at h85
        subst h85
        have HWW := Lib.hid hW.2
        clear hS hW hf
        go_wp2_with fail
        go_ret
        exact ⟨rfl, HMW.out ▸ HWW.out⟩
end Go.Proofs.Ytdmodhcbcpmadaa
end
