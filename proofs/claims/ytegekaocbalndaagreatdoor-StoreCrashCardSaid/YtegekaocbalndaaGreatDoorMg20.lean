/- several texts in one: StoreCrash: plain: what is on a store's disk, by names., StoreCrash: plain: what a store's disk may hold, crashes, and how it is opened., StoreCrash: plain: a store is opened; a commit., StoreCrash: plain: a compact., StoreCrash: plain: crash and open, again and again; a state of the law., StoreCrash: a store is opened, whatever its generation. -/
import Derived.Test.YtegekaocbalndaaGreatDoorMg11
import Derived.Test.YtegekaocbalndaaGreatDoorNr
import Derived.Test.YtegekaocbalndaaGreatDoorMw
import Derived.Test.YtegekaocbalndaaGreatDoorMg3
import Derived.Test.YtegekaocbalndaaGreatDoorMg13
section
set_option linter.unusedSimpArgs false
set_option linter.unusedVariables false
namespace Go.Proofs.YtegekaocbalndaaGreatDoor
open Go.RowKit

abbrev B1 : Nm := [116, 49]
theorem decS_inj {a b : Nat} (ha : a < 100) (hb : b < 100) (h : decS a = decS b) : a = b := by
  have ht : ∀ x y : Nat, x < 200 → y < 200 → UInt8.ofNat x = UInt8.ofNat y → x = y := fun x y hx hy e => by
    have := congrArg UInt8.toNat e
    simp only [UInt8.toNat_ofNat'] at this
    omega
  unfold decS at h
  split at h <;> split at h
  · simp only [List.cons.injEq, and_true] at h
    have := ht _ _ (by omega) (by omega) h
    omega
  · simp at h
  · simp at h
  · simp only [List.cons.injEq, and_true] at h
    have h1 := ht _ _ (by omega) (by omega) h.1
    have h2 := ht _ _ (by omega) (by omega) h.2
    omega
theorem logN_inj {base : Nm} {a b : Nat} (ha : a < 100) (hb : b < 100) (h : logN base a = logN base b) : a = b := decS_inj ha hb (List.append_cancel_left h)
theorem snap_tmp : snapN B1 ≠ tmpN B1 := by decide
theorem snap_log (g : Nat) : snapN B1 ≠ logN B1 g := fun h => by
  have := congrArg (fun l => l[3]?) h
  simp [snapN, logN, bSnap, bLog] at this
theorem tmp_log (g : Nat) : tmpN B1 ≠ logN B1 g := fun h => by
  have := congrArg (fun l => l[3]?) h
  simp [tmpN, logN, bTmp, bLog] at this
theorem log_ok {g : Nat} (h : g < 100) : nameOk (logN B1 g) = true := by
  have : ∀ g : Fin 100, nameOk (logN B1 g.1) = true := by decide +kernel
  exact this ⟨g, h⟩
theorem log_ne {a b : Nat} (ha : a < 100) (hb : b < 100) (h : a ≠ b) : logN B1 a ≠ logN B1 b := fun e => h (logN_inj ha hb e)

/-- the files of a store's disk: snapshot, draft, log, the log of the generation ahead. -/
def vw (g : Nat) (sn tm lg old : Option Fl) (k : Nm) : Option Fl :=
  if k = snapN B1 then sn else if k = tmpN B1 then tm else if k = logN B1 g then lg else if 0 < g ∧ k = logN B1 (g - 1) then old else none
structure VS (d : Dk) (g : Nat) (sn tm lg old : Option Fl) : Prop where
  ok : d.Ok
  size : d.size = 20000
  view : ∀ k, nget d.fs k = vw g sn tm lg old k
  gen : g ≤ 60
section
variable {d : Dk} {g : Nat} {sn tm lg old : Option Fl}
theorem vw_snap : vw g sn tm lg old (snapN B1) = sn := if_pos rfl
theorem vw_tmp : vw g sn tm lg old (tmpN B1) = tm := by unfold vw; rw [if_neg (fun h => snap_tmp h.symm), if_pos rfl]
theorem vw_log : vw g sn tm lg old (logN B1 g) = lg := by unfold vw; rw [if_neg (fun h => snap_log g h.symm), if_neg (fun h => tmp_log g h.symm), if_pos rfl]
theorem vw_old (h : 0 < g) (hg : g < 100) : vw g sn tm lg old (logN B1 (g - 1)) = old := by
  unfold vw
  rw [if_neg (fun h => snap_log _ h.symm), if_neg (fun h => tmp_log _ h.symm), if_neg (log_ne (by omega) hg (by omega)), if_pos ⟨h, rfl⟩]
theorem vw_next (hg : g < 99) : vw g sn tm lg old (logN B1 (g + 1)) = none := by
  unfold vw
  rw [if_neg (fun h => snap_log _ h.symm), if_neg (fun h => tmp_log _ h.symm), if_neg (log_ne (by omega) (by omega) (by omega)), if_neg]
  rintro ⟨h1, h2⟩
  exact log_ne (by omega) (by omega) (by omega) h2
theorem vw_put_snap (f : Option Fl) (k : Nm) : (if snapN B1 == k then f else vw g sn tm lg old k) = vw g f tm lg old k := by
  by_cases h : k = snapN B1
  · subst h; rw [if_pos (by simp), vw_snap]
  · rw [if_neg (by simpa using fun e => h e.symm)]; unfold vw; rw [if_neg h, if_neg h]
theorem vw_put_tmp (f : Option Fl) (k : Nm) : (if tmpN B1 == k then f else vw g sn tm lg old k) = vw g sn f lg old k := by
  by_cases h : k = tmpN B1
  · subst h; rw [if_pos (by simp), vw_tmp]
  · rw [if_neg (by simpa using fun e => h e.symm)]; unfold vw; rw [if_neg h, if_neg h]
theorem vw_put_log (f : Option Fl) (k : Nm) : (if logN B1 g == k then f else vw g sn tm lg old k) = vw g sn tm f old k := by
  by_cases h : k = logN B1 g
  · subst h; rw [if_pos (by simp), vw_log]
  · rw [if_neg (by simpa using fun e => h e.symm)]; unfold vw; rw [if_neg h, if_neg h]
theorem vw_put_old (h0 : 0 < g) (hg : g < 100) (f : Option Fl) (k : Nm) : (if logN B1 (g - 1) == k then f else vw g sn tm lg old k) = vw g sn tm lg f k := by
  by_cases h : k = logN B1 (g - 1)
  · subst h; rw [if_pos (by simp), vw_old h0 hg]
  · rw [if_neg (by simpa using fun e => h e.symm)]; unfold vw; rw [if_neg (show ¬ (0 < g ∧ k = logN B1 (g - 1)) from fun e => h e.2), if_neg (show ¬ (0 < g ∧ k = logN B1 (g - 1)) from fun e => h e.2)]
theorem vw_bump (hg : g < 99) (k : Nm) (f : Option Fl) : vw g f tm lg none k = vw (g + 1) f tm none lg k := by
  unfold vw
  by_cases h1 : k = snapN B1
  · rw [if_pos h1, if_pos h1]
  rw [if_neg h1, if_neg h1]
  by_cases h2 : k = tmpN B1
  · rw [if_pos h2, if_pos h2]
  rw [if_neg h2, if_neg h2]
  by_cases h3 : k = logN B1 g
  · subst h3
    rw [if_pos rfl, if_neg (log_ne (by omega) (by omega) (by omega)), if_pos ⟨by omega, rfl⟩]
  · rw [if_neg h3]
    have e1 : (if 0 < g ∧ k = logN B1 (g - 1) then (none : Option Fl) else none) = none := by split <;> rfl
    rw [e1]
    by_cases h4 : k = logN B1 (g + 1)
    · rw [if_pos h4]
    · rw [if_neg h4, if_neg]
      rintro ⟨_, h5⟩
      exact h3 h5
theorem VS.file_snap (h : VS d g sn tm lg old) : d.file (snapN B1) = sn.getD fl0 ∧ d.has (snapN B1) = sn.isSome := by unfold Dk.file Dk.has; rw [h.view, vw_snap]; exact ⟨rfl, rfl⟩
theorem VS.file_tmp (h : VS d g sn tm lg old) : d.file (tmpN B1) = tm.getD fl0 ∧ d.has (tmpN B1) = tm.isSome := by unfold Dk.file Dk.has; rw [h.view, vw_tmp]; exact ⟨rfl, rfl⟩
theorem VS.file_log (h : VS d g sn tm lg old) : d.file (logN B1 g) = lg.getD fl0 ∧ d.has (logN B1 g) = lg.isSome := by unfold Dk.file Dk.has; rw [h.view, vw_log]; exact ⟨rfl, rfl⟩
theorem VS.file_old (h : VS d g sn tm lg old) (h0 : 0 < g) : d.file (logN B1 (g - 1)) = old.getD fl0 ∧ d.has (logN B1 (g - 1)) = old.isSome := by unfold Dk.file Dk.has; rw [h.view, vw_old h0 (by have := h.gen; omega)]; exact ⟨rfl, rfl⟩
theorem VS.file_next (h : VS d g sn tm lg old) : d.file (logN B1 (g + 1)) = fl0 ∧ d.has (logN B1 (g + 1)) = false := by unfold Dk.file Dk.has; rw [h.view, vw_next (by have := h.gen; omega)]; exact ⟨rfl, rfl⟩
end
def ov (f : Fl → Nat) (o : Option Fl) : Nat := match o with | some a => f a | none => 0
theorem total_cover (f : Fl → Nat) : ∀ (ks : List Nm) (l : Nl Fl), (l.Pairwise fun p q => p.1 ≠ q.1) → ks.Nodup → (∀ k, nget l k ≠ none → k ∈ ks) → total f l = (ks.map fun k => ov f (nget l k)).sum
  | [], l, hl, _, h => by
    cases l with
    | nil => rfl
    | cons q l => exact absurd (h q.1 (by rw [nget_cons, if_pos (by simp)]; simp)) (by simp)
  | k :: ks, l, hl, hn, h => by
    obtain ⟨h1, h2⟩ := List.nodup_cons.1 hn
    have ht : total f (ndel l k) + ov f (nget l k) = total f l := by
      have := total_del f k hl
      unfold ov
      cases e : nget l k with
      | none => rw [e] at this; exact this
      | some a => rw [e] at this; exact this
    have ih := total_cover f ks (ndel l k) (List.Pairwise.filter _ hl) h2 (fun k' hk' => by
      rw [nget_del] at hk'
      split at hk'
      · exact absurd rfl hk'
      · rename_i e
        rcases List.mem_cons.1 (h k' hk') with rfl | h
        · exact absurd (by simp) e
        · exact h)
    have em : (ks.map fun k' => ov f (nget (ndel l k) k')) = ks.map fun k' => ov f (nget l k') := by
      apply List.map_congr_left
      intro k' hk'
      rw [nget_del, if_neg]
      intro e
      have e : k = k' := by simpa using e
      exact h1 (e ▸ hk')
    rw [em] at ih
    rw [List.map_cons, List.sum_cons, ← ht, ih]
    exact Nat.add_comm _ _
/-- over the files of a store. -/
theorem VS.sum {d : Dk} {g : Nat} {sn tm lg old : Option Fl} (h : VS d g sn tm lg old) (h0 : g = 0 → old = none) (f : Fl → Nat) : total f d.fs = ov f sn + ov f tm + ov f lg + ov f old := by
  have hg := h.gen
  have hcov := fun ks hn hc => total_cover f ks d.fs h.ok.rising.nodup hn hc
  by_cases hz : g = 0
  · rw [hcov [snapN B1, tmpN B1, logN B1 g] (by subst hz; decide) (fun k hk => by
      rw [h.view] at hk
      unfold vw at hk
      simp only [List.mem_cons, List.not_mem_nil, or_false]
      by_cases h1 : k = snapN B1
      · exact .inl h1
      by_cases h2 : k = tmpN B1
      · exact .inr (.inl h2)
      by_cases h3 : k = logN B1 g
      · exact .inr (.inr h3)
      rw [if_neg h1, if_neg h2, if_neg h3, if_neg (by omega)] at hk
      exact absurd rfl hk)]
    simp only [List.map_cons, List.map_nil, List.sum_cons, List.sum_nil]
    rw [h.view, h.view, h.view, vw_snap, vw_tmp, vw_log, h0 hz]
    show _ = _ + _ + _ + 0
    omega
  · rw [hcov [snapN B1, tmpN B1, logN B1 g, logN B1 (g - 1)] (by
      have n1 := snap_tmp
      have n2 := snap_log
      have n3 := tmp_log
      have n4 := log_ne (a := g) (b := g - 1) (by omega) (by omega) (by omega)
      simp only [List.nodup_cons, List.mem_cons, List.not_mem_nil, or_false, not_or, not_false_eq_true, List.nodup_nil, and_true]
      exact ⟨⟨n1, n2 g, n2 _⟩, ⟨n3 g, n3 _⟩, n4⟩) (fun k hk => by
      rw [h.view] at hk
      unfold vw at hk
      simp only [List.mem_cons, List.not_mem_nil, or_false]
      by_cases h1 : k = snapN B1
      · exact .inl h1
      by_cases h2 : k = tmpN B1
      · exact .inr (.inl h2)
      by_cases h3 : k = logN B1 g
      · exact .inr (.inr (.inl h3))
      by_cases h4 : k = logN B1 (g - 1)
      · exact .inr (.inr (.inr h4))
      rw [if_neg h1, if_neg h2, if_neg h3, if_neg (fun h => h4 h.2)] at hk
      exact absurd rfl hk)]
    simp only [List.map_cons, List.map_nil, List.sum_cons, List.sum_nil]
    rw [h.view, h.view, h.view, h.view, vw_snap, vw_tmp, vw_log, vw_old (by omega) (by omega)]
    omega
/-- the bytes of a file, if it is there. -/
def ol (o : Option Fl) : Nat := ov flen o
theorem VS.used {d : Dk} {g : Nat} {sn tm lg old : Option Fl} (h : VS d g sn tm lg old) (h0 : g = 0 → old = none) : d.used = ol sn + ol tm + ol lg + ol old := h.sum h0 flen
theorem VS.count {d : Dk} {g : Nat} {sn tm lg old : Option Fl} (h : VS d g sn tm lg old) (h0 : g = 0 → old = none) : d.fs.length ≤ 4 := by
  have := h.sum h0 (fun _ => 1)
  rw [total_one] at this
  have ho : ∀ o : Option Fl, ov (fun _ => 1) o ≤ 1 := fun o => by cases o <;> simp [ov]
  have h1 := ho sn; have h2 := ho tm; have h3 := ho lg; have h4 := ho old
  omega
/-- a write that is done, or finds no power. -/
def Stp (d : Dk) (r : Dk × Nat) (Q : Dk → Prop) : Prop := (d.left = 0 ∧ r = (d, 13)) ∨ ∃ d', d.left ≠ 0 ∧ r = (d', 0) ∧ Q d' ∧ d'.writes = d.writes + 1 ∧ (d.left = -1 → d'.left = -1)
theorem Stp.mono {d : Dk} {r : Dk × Nat} {Q Q' : Dk → Prop} (h : Stp d r Q) (hq : ∀ d', Q d' → Q' d') : Stp d r Q' := by
  rcases h with h | ⟨d', h1, h2, h3, h4⟩
  · exact .inl h
  · exact .inr ⟨d', h1, h2, hq d' h3, h4⟩
theorem wr_stp {d : Dk} {g g' : Nat} {sn tm lg old sn' tm' lg' old' : Option Fl} (h : VS d g sn tm lg old) {fs : Nl Fl} (hok : (d.wr fs).1.Ok) (hv : ∀ k, nget fs k = vw g' sn' tm' lg' old' k) (hg : g' ≤ 60) : Stp d (d.wr fs) fun d' => VS d' g' sn' tm' lg' old' := by
  by_cases hl : d.left = 0
  · exact .inl ⟨hl, by unfold Dk.wr; rw [if_pos hl]⟩
  · have e : d.wr fs = (d.tick fs, 0) := by unfold Dk.wr; rw [if_neg hl]
    rw [e] at hok
    refine .inr ⟨d.tick fs, hl, e, ⟨hok, h.size, hv, hg⟩, rfl, fun e => ?_⟩
    show (if 0 < d.left then d.left - 1 else d.left) = -1
    rw [e]; rfl
section
variable {d : Dk} {g : Nat} {sn tm lg old : Option Fl}
theorem VS.append_log (h : VS d g sn tm lg old) (h0 : g = 0 → old = none) (b : List UInt8) (hu : d.used + b.length ≤ 20000) : Stp d (d.append (logN B1 g) b) fun d' => VS d' g sn tm (some ⟨(lg.getD fl0).b ++ b, (lg.getD fl0).safe, (lg.getD fl0).kept⟩) old := by
  have hok := h.ok.append (logN B1 g) b
  have hc := h.count h0
  have hs := h.size
  unfold Dk.append at hok ⊢
  rw [if_neg (by rw [log_ok (by have := h.gen; omega)]; decide), if_neg (by omega)] at hok ⊢
  refine wr_stp h hok (fun k => ?_) h.gen
  rw [nget_put, h.view, vw_put_log, h.file_log.1]
theorem VS.append_tmp (h : VS d g sn tm lg old) (h0 : g = 0 → old = none) (b : List UInt8) (hu : d.used + b.length ≤ 20000) : Stp d (d.append (tmpN B1) b) fun d' => VS d' g sn (some ⟨(tm.getD fl0).b ++ b, (tm.getD fl0).safe, (tm.getD fl0).kept⟩) lg old := by
  have hok := h.ok.append (tmpN B1) b
  have hc := h.count h0
  have hs := h.size
  unfold Dk.append at hok ⊢
  rw [if_neg (by decide), if_neg (by omega)] at hok ⊢
  refine wr_stp h hok (fun k => ?_) h.gen
  rw [nget_put, h.view, vw_put_tmp, h.file_tmp.1]
theorem VS.sync_log {f : Fl} (h : VS d g sn tm (some f) old) : Stp d (d.sync (logN B1 g)) fun d' => VS d' g sn tm (some ⟨f.b, f.b.length, true⟩) old := by
  have hok := h.ok.sync (logN B1 g)
  unfold Dk.sync at hok ⊢
  rw [if_neg (by rw [h.file_log.2]; exact fun h => by cases h)] at hok ⊢
  refine wr_stp h hok (fun k => ?_) h.gen
  rw [nget_put, h.view, vw_put_log, h.file_log.1]; rfl
theorem VS.sync_tmp {f : Fl} (h : VS d g sn (some f) lg old) : Stp d (d.sync (tmpN B1)) fun d' => VS d' g sn (some ⟨f.b, f.b.length, true⟩) lg old := by
  have hok := h.ok.sync (tmpN B1)
  unfold Dk.sync at hok ⊢
  rw [if_neg (by rw [h.file_tmp.2]; exact fun h => by cases h)] at hok ⊢
  refine wr_stp h hok (fun k => ?_) h.gen
  rw [nget_put, h.view, vw_put_tmp, h.file_tmp.1]; rfl
theorem VS.cut_log {f : Fl} (h : VS d g sn tm (some f) old) (n : Nat) (hn : n ≤ f.b.length) (hsf : f.safe = f.b.length) : Stp d (d.cut (logN B1 g) n) fun d' => VS d' g sn tm (some ⟨f.b.take n, n, true⟩) old := by
  have hok := h.ok.cut (logN B1 g) n
  have e : d.file (logN B1 g) = f := h.file_log.1
  unfold Dk.cut at hok ⊢
  rw [e, if_neg (by rw [h.file_log.2]; exact fun h => by cases h), if_neg (by omega), if_neg (by omega)] at hok ⊢
  refine wr_stp h hok (fun k => ?_) h.gen
  rw [nget_put, h.view, vw_put_log]; rfl
theorem VS.rename {f : Fl} (h : VS d g sn (some f) lg old) (hsf : f.safe = f.b.length) : Stp d (d.rename (tmpN B1) (snapN B1)) fun d' => VS d' g (some ⟨f.b, f.safe, true⟩) none lg old := by
  have hok := h.ok.rename (tmpN B1) (snapN B1)
  have e : d.file (tmpN B1) = f := h.file_tmp.1
  unfold Dk.rename at hok ⊢
  rw [e, if_neg (by decide), if_neg (by rw [h.file_tmp.2]; exact fun h => by cases h), if_neg (by omega)] at hok ⊢
  refine wr_stp h hok (fun k => ?_) h.gen
  rw [nget_put, nget_del, h.view, vw_put_tmp, vw_put_snap]
theorem VS.remove_tmp {f : Fl} (h : VS d g sn (some f) lg old) : Stp d (d.remove (tmpN B1)) fun d' => VS d' g sn none lg old := by
  have hok := h.ok.remove (tmpN B1)
  unfold Dk.remove at hok ⊢
  rw [if_neg (by rw [h.file_tmp.2]; exact fun h => by cases h)] at hok ⊢
  refine wr_stp h hok (fun k => ?_) h.gen
  rw [nget_del, h.view, vw_put_tmp]
theorem VS.remove_old {f : Fl} (h : VS d g sn tm lg (some f)) (h0 : 0 < g) : Stp d (d.remove (logN B1 (g - 1))) fun d' => VS d' g sn tm lg none := by
  have hok := h.ok.remove (logN B1 (g - 1))
  unfold Dk.remove at hok ⊢
  rw [if_neg (by rw [(h.file_old h0).2]; exact fun h => by cases h)] at hok ⊢
  refine wr_stp h hok (fun k => ?_) h.gen
  rw [nget_del, h.view, vw_put_old h0 (by have := h.gen; omega)]
theorem VS.bump (h : VS d g sn tm lg none) (hg : g < 60) : VS d (g + 1) sn tm none lg := ⟨h.ok, h.size, fun k => by rw [h.view, vw_bump (by omega)], by omega⟩
end
end Go.Proofs.YtegekaocbalndaaGreatDoor
end

section
set_option linter.unusedSimpArgs false
set_option linter.unusedVariables false
namespace Go.Proofs.YtegekaocbalndaaGreatDoor
open Go.RowKit

/-- the snapshot's file. -/
def SnF (R g : Nat) (s : List UInt8) (o : Option Fl) : Prop := (g = 0 ∧ s = [] ∧ o = none) ∨ (1 ≤ g ∧ smallB s.length R = true ∧ ∃ kept, o = some ⟨snapB g s, (snapB g s).length, kept⟩)
/-- a log's file: the frames of S, and t behind. -/
def LgF (S : List (List UInt8)) (t : List UInt8) (o : Option Fl) : Prop := (o = none ∧ S = [] ∧ t = []) ∨ ∃ safe kept, o = some ⟨framesL S ++ t, safe, kept⟩ ∧ (framesL S).length ≤ safe ∧ safe ≤ (framesL S ++ t).length
def SafeF (o : Option Fl) : Prop := ∀ f, o = some f → f.safe = f.b.length
/-- a beginning of what is in doubt. -/
def Tail (X : Option (List UInt8)) (t : List UInt8) : Prop := t = [] ∨ ∃ x k, X = some x ∧ k ≤ x.length + 12 ∧ t = (frameL x).take k
structure Fit (R : Nat) (S : List (List UInt8)) (X : Option (List UInt8)) : Prop where
  fits : (framesL S).length ≤ R / 3
  fitx : ∀ x, X = some x → (framesL S).length + (x.length + 12) ≤ R / 3
  small : ∀ r ∈ S, r.length ≤ 300
  smallx : ∀ x, X = some x → x.length ≤ 300
/-- what a store's disk may hold. -/
def PS (sf : Bool) (R : Nat) (d : Dk) (g : Nat) (s : List UInt8) (S : List (List UInt8)) (X : Option (List UInt8)) : Prop := Fit R S X ∧ ∃ sn tm lg old t, VS d g sn tm lg old ∧ (g = 0 → old = none) ∧ SnF R g s sn ∧ LgF S t lg ∧ Tail X t ∧ ol tm ≤ R / 3 ∧ ol old ≤ R / 3 ∧ (tm = none ∨ old = none) ∧ (sf = true → SafeF tm ∧ SafeF lg ∧ SafeF old)
/-- a store that is whole. -/
def GS (R : Nat) (d : Dk) (L : Lg) (g : Nat) (s : List UInt8) (S : List (List UInt8)) : Prop := Fit R S none ∧ L = ⟨logN B1 g, R / 3, S.length, (framesL S).length, false⟩ ∧ ∃ sn lg, VS d g sn none lg none ∧ SnF R g s sn ∧ LgF S [] lg
theorem SnF.safe {R g : Nat} {s : List UInt8} {o : Option Fl} (h : SnF R g s o) : SafeF o := fun f hf => by
  rcases h with ⟨_, _, h⟩ | ⟨_, _, kept, h⟩
  · rw [h] at hf; cases hf
  · rw [h] at hf; cases hf; rfl
theorem SnF.len {R g : Nat} {s : List UInt8} {o : Option Fl} (h : SnF R g s o) : ol o ≤ R / 3 := by
  rcases h with ⟨_, _, h⟩ | ⟨_, h1, kept, h⟩
  · rw [h]; exact Nat.zero_le _
  · rw [h]
    show (snapB g s).length ≤ _
    rw [snapB_len]
    exact (small_len h1).2
theorem LgF.safe {S : List (List UInt8)} {o : Option Fl} (h : LgF S [] o) : SafeF o := fun f hf => by
  rcases h with ⟨h, _⟩ | ⟨safe, kept, h, h1, h2⟩
  · rw [h] at hf; cases hf
  · rw [h] at hf; cases hf
    rw [List.append_nil] at h2 ⊢
    simp only []
    omega
theorem LgF.b {S : List (List UInt8)} {t : List UInt8} {o : Option Fl} (h : LgF S t o) : (o.getD fl0).b = framesL S ++ t := by
  rcases h with ⟨h, h1, h2⟩ | ⟨safe, kept, h, _⟩
  · rw [h, h1, h2]; rfl
  · rw [h]; rfl
theorem LgF.len {S : List (List UInt8)} {t : List UInt8} {o : Option Fl} (h : LgF S t o) : ol o = (framesL S ++ t).length := by
  rw [← h.b]
  cases o <;> rfl
theorem Tail.len {X : Option (List UInt8)} {t : List UInt8} (h : Tail X t) : t = [] ∨ ∃ x, X = some x ∧ t.length ≤ x.length + 12 := by
  rcases h with h | ⟨x, k, h1, h2, h3⟩
  · exact .inl h
  · exact .inr ⟨x, h1, by rw [h3, List.length_take]; omega⟩
theorem Fit.log {R : Nat} {S : List (List UInt8)} {X : Option (List UInt8)} {t : List UInt8} (h : Fit R S X) (ht : Tail X t) : (framesL S ++ t).length ≤ R / 3 := by
  rw [List.length_append]
  rcases ht.len with rfl | ⟨x, h1, h2⟩
  · exact h.fits
  · have := h.fitx x h1; omega
theorem PS.used {sf : Bool} {R : Nat} {d : Dk} {g : Nat} {s : List UInt8} {S : List (List UInt8)} {X : Option (List UInt8)} (h : PS sf R d g s S X) : d.used ≤ R := by
  obtain ⟨hf, sn, tm, lg, old, t, hv, h0, hs, hl, ht, h1, h2, h3, _⟩ := h
  rw [hv.used h0]
  have a1 := hs.len
  have a2 := hf.log ht
  rw [← hl.len] at a2
  rcases h3 with rfl | rfl
  · have : ol (none : Option Fl) = 0 := rfl
    omega
  · have : ol (none : Option Fl) = 0 := rfl
    omega
theorem PS.ok {sf : Bool} {R : Nat} {d : Dk} {g : Nat} {s : List UInt8} {S : List (List UInt8)} {X : Option (List UInt8)} (h : PS sf R d g s S X) : d.Ok ∧ d.size = 20000 ∧ g ≤ 60 := by
  obtain ⟨hf, sn, tm, lg, old, t, hv, _⟩ := h
  exact ⟨hv.ok, hv.size, hv.gen⟩
theorem GS.ps {R : Nat} {d : Dk} {L : Lg} {g : Nat} {s : List UInt8} {S : List (List UInt8)} (h : GS R d L g s S) : PS true R d g s S none := by
  obtain ⟨hf, hL, sn, lg, hv, hs, hl⟩ := h
  exact ⟨hf, sn, none, lg, none, [], hv, fun _ => rfl, hs, hl, .inl rfl, Nat.zero_le _, Nat.zero_le _, .inl rfl, fun _ => ⟨(fun f h => by cases h), hl.safe, fun f h => by cases h⟩⟩
theorem PS.any {R : Nat} {d : Dk} {g : Nat} {s : List UInt8} {S : List (List UInt8)} {X : Option (List UInt8)} (h : PS true R d g s S X) : PS false R d g s S X := by
  obtain ⟨hf, sn, tm, lg, old, t, hv, h0, hs, hl, ht, h1, h2, h3, _⟩ := h
  exact ⟨hf, sn, tm, lg, old, t, hv, h0, hs, hl, ht, h1, h2, h3, fun h => by cases h⟩
/-- a file behind a crash. -/
def CrF (o o' : Option Fl) : Prop := (o = none ∧ o' = none) ∨ ∃ f j, o = some f ∧ f.safe ≤ f.b.length ∧ j ≤ f.b.length - f.safe ∧ ((o' = none ∧ f.b.take (f.safe + j) = []) ∨ o' = some ⟨f.b.take (f.safe + j), f.safe + j, true⟩)
theorem crash_get {d : Dk} (h : d.Ok) (t : List Int) (k : Nm) : CrF (nget d.fs k) (nget (d.crash t).fs k) := by
  cases e : nget d.fs k with
  | none =>
    refine .inl ⟨rfl, ?_⟩
    cases e2 : nget (d.crash t).fs k with
    | none => rfl
    | some f =>
      exfalso
      have h1 := nget_mem e2
      have h2 : k ∈ names d.fs := (crashL_names d.fs t).subset (List.mem_map.2 ⟨_, h1, rfl⟩)
      obtain ⟨q, hq, rfl⟩ := List.mem_map.1 h2
      have : ∀ l : Nl Fl, q ∈ l → nget l q.1 ≠ none := fun l => by
        induction l with
        | nil => intro h; simp at h
        | cons p l ih =>
          intro h
          rw [nget_cons]
          split
          · exact fun h => by cases h
          · rename_i hne
            rcases List.mem_cons.1 h with rfl | h
            · exact absurd (by simp) hne
            · exact ih h
      exact this _ hq e
  | some f =>
    have hm := nget_mem e
    have hsf := h.safe _ hm
    obtain ⟨j, hj⟩ := List.mem_iff_getElem?.1 hm
    have hc := crash_file h.rising t hj
    refine .inr ⟨f, (tornF f (dropL (d.fs.take j) t)).safe - f.safe, rfl, hsf, ?_⟩
    have hkl := keepOf_le (dropL (d.fs.take j) t) (f.b.length - f.safe)
    have ht : ∃ i, i ≤ f.b.length - f.safe ∧ (tornF f (dropL (d.fs.take j) t)).safe = f.safe + i ∧ (tornF f (dropL (d.fs.take j) t)).b = f.b.take (f.safe + i) := by
      unfold tornF
      split
      · exact ⟨_, hkl, rfl, rfl⟩
      · refine ⟨0, Nat.zero_le _, rfl, ?_⟩
        rw [List.take_of_length_le]
        simp only [Nat.add_zero]
        simp only [] at hsf
        omega
    obtain ⟨i, h1, h2, h3⟩ := ht
    have hsub : f.safe + i - f.safe = i := by omega
    rw [h2, h3] at hc
    rw [h2, hsub]
    refine ⟨h1, ?_⟩
    change nget (d.crash t).fs k = _ at hc
    rw [hc]
    by_cases hg : goneF (tornF f (dropL (d.fs.take j) t)) = true
    · left
      rw [if_pos hg]
      refine ⟨rfl, ?_⟩
      unfold goneF at hg
      simp only [Bool.and_eq_true, decide_eq_true_eq] at hg
      rw [← h3]
      exact List.eq_nil_of_length_eq_zero hg.2
    · right
      rw [if_neg hg]
theorem CrF.safe {o o' : Option Fl} (h : CrF o o') : SafeF o' := fun f hf => by
  rcases h with ⟨_, h⟩ | ⟨f0, j, h1, h2, h3, ⟨h4, _⟩ | h4⟩
  · rw [h] at hf; cases hf
  · rw [h4] at hf; cases hf
  · rw [h4] at hf; cases hf
    simp only [List.length_take]
    omega
theorem CrF.len {o o' : Option Fl} (h : CrF o o') : ol o' ≤ ol o := by
  rcases h with ⟨h1, h⟩ | ⟨f0, j, h1, h2, h3, ⟨h4, _⟩ | h4⟩
  · rw [h1, h]; exact Nat.le_refl _
  · rw [h4]; exact Nat.zero_le _
  · rw [h4, h1]
    show (f0.b.take _).length ≤ f0.b.length
    rw [List.length_take]; omega
theorem CrF.none {o' : Option Fl} (h : CrF none o') : o' = none := by
  rcases h with ⟨_, h⟩ | ⟨f0, j, h1, _⟩
  · exact h
  · cases h1
theorem snapB_pos (g : Nat) (s : List UInt8) : 0 < (snapB g s).length := by rw [snapB_len]; omega
theorem CrF.snap {R g : Nat} {s : List UInt8} {o o' : Option Fl} (h : CrF o o') (hs : SnF R g s o) : SnF R g s o' := by
  rcases hs with ⟨h1, h2, h3⟩ | ⟨h1, h2, kept, h3⟩
  · subst h3; exact .inl ⟨h1, h2, h.none⟩
  · subst h3
    refine .inr ⟨h1, h2, ?_⟩
    rcases h with ⟨h, _⟩ | ⟨f0, j, h4, h5, h6, h7⟩
    · cases h
    · cases h4
      simp only [Nat.sub_self] at h6
      obtain rfl : j = 0 := by omega
      simp only [Nat.add_zero, List.take_length] at h7
      rcases h7 with ⟨_, h8⟩ | h8
      · have := snapB_pos g s
        rw [h8] at this
        simp at this
      · exact ⟨true, h8⟩
theorem CrF.log {S : List (List UInt8)} {X : Option (List UInt8)} {t : List UInt8} {o o' : Option Fl} (h : CrF o o') (hl : LgF S t o) (ht : Tail X t) : ∃ t', LgF S t' o' ∧ Tail X t' := by
  rcases hl with ⟨h1, h2, h3⟩ | ⟨safe, kept, h1, h2, h3⟩
  · subst h1
    exact ⟨t, .inl ⟨h.none, h2, h3⟩, ht⟩
  · subst h1
    rcases h with ⟨h, _⟩ | ⟨f0, j, h4, h5, h6, h7⟩
    · cases h
    · cases h4
      simp only [] at h5 h6 h7
      obtain ⟨n, hn⟩ : ∃ n, safe + j = (framesL S).length + n := ⟨safe + j - (framesL S).length, by omega⟩
      rw [hn, List.take_length_add_append] at h7
      have htt : Tail X (t.take n) := by
        rcases ht with rfl | ⟨x, k, h8, h9, rfl⟩
        · left; simp
        · right
          refine ⟨x, min n k, h8, by omega, ?_⟩
          rw [List.take_take]
      refine ⟨t.take n, ?_, htt⟩
      rcases h7 with ⟨h8, h9⟩ | h8
      · left
        obtain ⟨e1, e2⟩ := List.append_eq_nil_iff.1 h9
        refine ⟨h8, ?_, e2⟩
        cases S with
        | nil => rfl
        | cons r S =>
          have := congrArg List.length e1
          rw [frames_cons, List.length_append, frame_length] at this
          simp at this
      · right
        refine ⟨_, true, h8, by omega, ?_⟩
        rw [List.length_append] at h3 h6 ⊢
        rw [List.length_take]
        omega
/-- behind a crash. -/
theorem PS.crash {sf : Bool} {R : Nat} {d : Dk} {g : Nat} {s : List UInt8} {S : List (List UInt8)} {X : Option (List UInt8)} (h : PS sf R d g s S X) (ts : List Int) : PS true R (d.crash ts) g s S X := by
  obtain ⟨hf, sn, tm, lg, old, t, hv, h0, hs, hl, ht, h1, h2, h3, _⟩ := h
  have hc := crash_get hv.ok ts
  have hg := hv.gen
  have c1 := hc (snapN B1); have c2 := hc (tmpN B1); have c3 := hc (logN B1 g); have c4 := hc (logN B1 (g - 1))
  rw [hv.view, vw_snap] at c1
  rw [hv.view, vw_tmp] at c2
  rw [hv.view, vw_log] at c3
  obtain ⟨t', hl', ht'⟩ := c3.log hl ht
  have c5 : CrF old (if 0 < g then nget (d.crash ts).fs (logN B1 (g - 1)) else none) := by
    by_cases hz : 0 < g
    · rw [if_pos hz]
      rw [hv.view, vw_old hz (by omega)] at c4
      exact c4
    · rw [if_neg hz, h0 (by omega)]
      exact .inl ⟨rfl, rfl⟩
  refine ⟨hf, nget (d.crash ts).fs (snapN B1), nget (d.crash ts).fs (tmpN B1), nget (d.crash ts).fs (logN B1 g), if 0 < g then nget (d.crash ts).fs (logN B1 (g - 1)) else none, t', ⟨hv.ok.crash ts, hv.size, fun k => ?_, hg⟩, fun hz => if_neg (by omega), c1.snap hs, hl', ht', Nat.le_trans c2.len h1, Nat.le_trans c5.len h2, ?_, fun _ => ⟨c2.safe, c3.safe, c5.safe⟩⟩
  · unfold vw
    by_cases k1 : k = snapN B1
    · rw [if_pos k1, k1]
    rw [if_neg k1]
    by_cases k2 : k = tmpN B1
    · rw [if_pos k2, k2]
    rw [if_neg k2]
    by_cases k3 : k = logN B1 g
    · rw [if_pos k3, k3]
    rw [if_neg k3]
    by_cases k4 : 0 < g ∧ k = logN B1 (g - 1)
    · rw [if_pos k4, if_pos k4.1, k4.2]
    · rw [if_neg k4]
      have := hc k
      rw [hv.view] at this
      unfold vw at this
      rw [if_neg k1, if_neg k2, if_neg k3, if_neg k4] at this
      exact this.none
  · rcases h3 with rfl | rfl
    · exact .inl c2.none
    · exact .inr c5.none
end Go.Proofs.YtegekaocbalndaaGreatDoor
end

section
set_option linter.unusedSimpArgs false
set_option linter.unusedVariables false
namespace Go.Proofs.YtegekaocbalndaaGreatDoor
open Go.RowKit

/-- from d to d': so many writes at most, and power stays power. -/
structure Wn (d d' : Dk) (n : Nat) : Prop where
  few : d'.writes ≤ d.writes + n
  pow : d.left = -1 → d'.left = -1
theorem Wn.refl (d : Dk) : Wn d d 0 := ⟨Nat.le_refl _, fun h => h⟩
theorem Wn.trans {a b c : Dk} {n m : Nat} (h : Wn a b n) (h2 : Wn b c m) : Wn a c (n + m) := ⟨by have := h.few; have := h2.few; omega, fun e => h2.pow (h.pow e)⟩
theorem Wn.more {a b : Dk} {n m : Nat} (h : Wn a b n) (hn : n ≤ m) : Wn a b m := ⟨by have := h.few; omega, h.pow⟩
section
variable {d : Dk} {g : Nat} {sn tm lg old : Option Fl}
theorem rm_skip (k : Nm) (ks : List Nm) (h : d.has k = false) : rmv d (k :: ks) = rmv d ks := by rw [rmv_cons, if_pos h]
theorem rm_stp {k : Nm} (ks : List Nm) {Q : Dk → Prop} (hh : d.has k = true) (h : Stp d (d.remove k) Q) : (d.left = 0 ∧ rmv d (k :: ks) = (d, 13)) ∨ ∃ d', rmv d (k :: ks) = rmv d' ks ∧ Q d' ∧ Wn d d' 1 := by
  rw [rmv_cons, if_neg (by rw [hh]; decide)]
  rcases h with ⟨h1, h2⟩ | ⟨d', h1, h2, h3, h4, h5⟩
  · rw [h2]; exact .inl ⟨h1, rfl⟩
  · rw [h2]; exact .inr ⟨d', rfl, h3, by omega, h5⟩
theorem VS.rm_tmp (h : VS d g sn tm lg old) (ks : List Nm) : (d.left = 0 ∧ rmv d (tmpN B1 :: ks) = (d, 13)) ∨ ∃ d', rmv d (tmpN B1 :: ks) = rmv d' ks ∧ VS d' g sn none lg old ∧ Wn d d' 1 := by
  cases tm with
  | none => exact .inr ⟨d, rm_skip _ _ h.file_tmp.2, h, (Wn.refl d).more (by omega)⟩
  | some f => exact rm_stp ks h.file_tmp.2 h.remove_tmp
theorem VS.rm_old (h : VS d g sn tm lg old) (h0 : 0 < g) (ks : List Nm) : (d.left = 0 ∧ rmv d (logN B1 (g - 1) :: ks) = (d, 13)) ∨ ∃ d', rmv d (logN B1 (g - 1) :: ks) = rmv d' ks ∧ VS d' g sn tm lg none ∧ Wn d d' 1 := by
  cases old with
  | none => exact .inr ⟨d, rm_skip _ _ (h.file_old h0).2, h, (Wn.refl d).more (by omega)⟩
  | some f => exact rm_stp ks (h.file_old h0).2 (h.remove_old h0)
end
/-- the log of a store is opened. -/
theorem lopen_vs {R : Nat} {d : Dk} {g : Nat} {s : List UInt8} {S : List (List UInt8)} {X : Option (List UInt8)} {t : List UInt8} {sn lg : Option Fl} (hR : 100 ≤ R ∧ R ≤ 5000) (hf : Fit R S X) (hv : VS d g sn none lg none) (hs : SnF R g s sn) (hl : LgF S t lg) (hsf : SafeF lg) (ht : Tail X t) :
    (d.left = 0 ∧ lopen d (logN B1 g) ((R / 3 : Nat) : Int) = ⟨d, none, [], 13⟩) ∨ ∃ S' d' L', (S' = S ∨ ∃ x, X = some x ∧ S' = S ++ [x]) ∧ lopen d (logN B1 g) ((R / 3 : Nat) : Int) = ⟨d', some L', S', 0⟩ ∧ GS R d' L' g s S' ∧ Wn d d' 1 := by
  have hg := hv.gen
  have hsm : ∀ r ∈ S, r.length ≤ 65536 := fun r hr => by have := hf.small r hr; omega
  have hfb : (d.file (logN B1 g)).b = framesL S ++ t := by rw [hv.file_log.1]; exact hl.b
  have hlo : d.loose (logN B1 g) = 0 := by
    unfold Dk.loose
    rw [hv.file_log.1]
    cases lg with
    | none => rfl
    | some f => have := hsf f rfl; show f.b.length - f.safe = 0; omega
  have hscan := scan_frames S t hsm
  have hfit := hf.fits
  have e0 : lopen d (logN B1 g) ((R / 3 : Nat) : Int) = lopen2 (d, 0) (logN B1 g) ((R / 3 : Nat) : Int) (S ++ (scanL t).1, (framesL S).length + (scanL t).2.1, (scanL t).2.2) := by
    unfold lopen
    rw [if_neg (by rintro (h | h | h); rw [log_ok (by omega)] at h; cases h; omega; omega), if_neg (by omega), hfb, hscan]
  have hfin : ∀ (D : Dk) (S' : List (List UInt8)) (n : Nat), n = (framesL S').length → n ≤ R / 3 → lopen3 (D, 0) (logN B1 g) ((R / 3 : Nat) : Int) (S', n, 0) = ⟨D, some ⟨logN B1 g, R / 3, S'.length, (framesL S').length, false⟩, S', 0⟩ ∧ lopen3 (D, 0) (logN B1 g) ((R / 3 : Nat) : Int) (S', n, 1) = ⟨D, some ⟨logN B1 g, R / 3, S'.length, (framesL S').length, false⟩, S', 0⟩ := by
    intro D S' n h1 h2
    subst h1
    unfold lopen3
    rw [if_neg (fun h => h rfl)]
    simp only []
    rw [if_neg (by omega)]
    constructor <;> rw [Int.toNat_natCast]
  have hfS : Fit R S none := ⟨hf.fits, (fun x h => by cases h), hf.small, fun x h => by cases h⟩
  by_cases htn : t = []
  · subst htn
    refine .inr ⟨S, d, _, .inl rfl, ?_, ⟨hfS, rfl, sn, lg, hv, hs, hl⟩, (Wn.refl d).more (by omega)⟩
    rw [e0, scan_nil]
    unfold lopen2
    dsimp only
    rw [if_neg (fun h => h rfl), if_neg (by decide), if_neg (by decide)]
    simp only [List.append_nil, Nat.add_zero]
    exact (hfin d S _ rfl hfit).1
  · rcases ht with h | ⟨x, k, hX, hk, hte⟩
    · exact absurd h htn
    have hx := hf.smallx x hX
    have hfx := hf.fitx x hX
    have hfl := frame_length x
    rcases hl with ⟨_, _, h⟩ | ⟨safe, kept, hlg, hs1, hs2⟩
    · exact absurd h htn
    have hsafe := hsf _ hlg
    simp only [] at hsafe
    by_cases hw : k = x.length + 12
    · subst hw
      have e : t = frameL x ++ [] := by rw [hte, List.append_nil, List.take_of_length_le (by omega)]
      have h1 := scan_whole (next_frame x [] (by omega))
      have hd : (frameL x ++ []).drop (x.length + 12) = [] := by rw [List.append_nil, List.drop_of_length_le (by omega)]
      rw [hd, scan_nil] at h1
      have ef : framesL (S ++ [x]) = framesL S ++ frameL x := by rw [frames_app, frames_one]
      have el : (framesL (S ++ [x])).length = (framesL S).length + (x.length + 12) := by rw [ef, List.length_append, hfl]
      have hfS' : Fit R (S ++ [x]) none := ⟨by omega, (fun x h => by cases h), (fun r hr => by
        rcases List.mem_append.1 hr with h5 | h5
        · exact hf.small r h5
        · rw [List.mem_singleton.1 h5]; exact hx), fun x h => by cases h⟩
      refine .inr ⟨S ++ [x], d, _, .inr ⟨x, hX, rfl⟩, ?_, ⟨hfS', rfl, sn, lg, hv, hs, .inr ⟨safe, kept, ?_, ?_, ?_⟩⟩, (Wn.refl d).more (by omega)⟩
      · rw [e0, e, h1]
        unfold lopen2
        dsimp only
        rw [if_neg (fun h => h rfl), if_neg (by decide), if_neg (by decide)]
        simp only [Nat.add_zero]
        exact (hfin d (S ++ [x]) _ el.symm (by omega)).1
      · rw [hlg, e, ef, List.append_nil, List.append_nil]
      · rw [el, hsafe, e, List.append_nil, List.length_append, hfl]; exact Nat.le_refl _
      · rw [hsafe, e, ef, List.append_nil, List.append_nil]; exact Nat.le_refl _
    · have h1 := scan_torn x (by omega) k (by omega)
      have hk0 : k ≠ 0 := fun h => htn (by rw [hte, h, List.take_zero])
      rw [← hte, if_neg hk0] at h1
      have e1 : lopen d (logN B1 g) ((R / 3 : Nat) : Int) = lopen3 (d.cut (logN B1 g) (((framesL S).length : Nat) : Int)) (logN B1 g) ((R / 3 : Nat) : Int) (S, (framesL S).length, 1) := by
        rw [e0, h1]
        unfold lopen2
        dsimp only
        rw [if_neg (fun h => h rfl), if_neg (by decide), if_pos rfl]
        simp only [List.append_nil, Nat.add_zero]
      subst hlg
      rcases hv.cut_log (framesL S).length (by simp) hsafe with ⟨h2, h3⟩ | ⟨d', h2, h3, h4, h5, h6⟩
      · left
        refine ⟨h2, ?_⟩
        rw [e1, h3]
        unfold lopen3
        dsimp only
        rw [if_pos (by decide)]
      · right
        refine ⟨S, d', _, .inl rfl, ?_, ⟨hfS, rfl, sn, _, h4, hs, .inr ⟨_, true, ?_, Nat.le_refl _, ?_⟩⟩, by omega, h6⟩
        · rw [e1, h3]
          exact (hfin d' S _ rfl hfit).2
        · simp only [List.append_nil]
          rw [List.take_left']
          rfl
        · simp
/-- how a store is opened. -/
def sopenR (d : Dk) (R g : Nat) : SOpenR := if g = 0 then sopen0 d B1 (R : Int) else sopen1 d B1 R g
theorem sopen_ps {R : Nat} {d : Dk} {g : Nat} {s : List UInt8} {S : List (List UInt8)} {X : Option (List UInt8)} (hR : 100 ≤ R ∧ R ≤ 5000) (h : PS true R d g s S X) :
    PS true R (sopenR d R g).d g s S X ∧ Wn d (sopenR d R g).d 3 ∧ (d.left = -1 → (sopenR d R g).e = 0 ∧ ∃ L S', (sopenR d R g).l = some L ∧ (sopenR d R g).ls = S' ∧ (S' = S ∨ ∃ x, X = some x ∧ S' = S ++ [x]) ∧ GS R (sopenR d R g).d L g s S') := by
  have hps := h
  obtain ⟨hf, sn, tm, lg, old, t, hv, h0, hs, hl, ht, h1, h2, h3, hsf⟩ := h
  obtain ⟨s1, s2, s3⟩ := hsf rfl
  have hg := hv.gen
  -- behind what is removed
  have hrm : ∃ rm, (if g = 0 then rmv d [tmpN B1, logN B1 1] else rmv d (oldN B1 g)) = rm ∧ ((rm.2 = 13 ∧ Wn d rm.1 2 ∧ d.left ≠ -1 ∧ PS true R rm.1 g s S X) ∨ (rm.2 = 0 ∧ Wn d rm.1 2 ∧ VS rm.1 g sn none lg none)) := by
    refine ⟨_, rfl, ?_⟩
    by_cases hz : g = 0
    · rw [if_pos hz]
      have ho := h0 hz
      subst ho
      rcases hv.rm_tmp [logN B1 1] with ⟨e1, e2⟩ | ⟨d', e1, e2, e3⟩
      · rw [e2]; exact .inl ⟨rfl, (Wn.refl d).more (by omega), by omega, hps⟩
      · rw [e1, rm_skip _ _ (by subst hz; exact e2.file_next.2)]
        exact .inr ⟨rfl, e3.more (by omega), e2⟩
    · rw [if_neg hz]
      unfold oldN
      rcases hv.rm_tmp [logN B1 (g - 1), logN B1 (g + 1)] with ⟨e1, e2⟩ | ⟨d', e1, e2, e3⟩
      · rw [e2]; exact .inl ⟨rfl, (Wn.refl d).more (by omega), by omega, hps⟩
      · rw [e1]
        rcases e2.rm_old (by omega) [logN B1 (g + 1)] with ⟨e4, e5⟩ | ⟨d2, e4, e5, e6⟩
        · rw [e5]
          refine .inl ⟨rfl, e3.more (by omega), fun e => ?_, hf, sn, none, lg, old, t, e2, h0, hs, hl, ht, Nat.zero_le _, h2, .inl rfl, fun _ => ⟨(fun f h => by cases h), s2, s3⟩⟩
          have := e3.pow e
          omega
        · rw [e4, rm_skip _ _ e5.file_next.2]
          exact .inr ⟨rfl, e3.trans e6, e5⟩
  obtain ⟨rm, hrm1, hrm2⟩ := hrm
  have hun : sopenR d R g = if rm.2 ≠ 0 then ⟨rm.1, none, [], rm.2⟩
      else if (lopen rm.1 (logN B1 g) ((R / 3 : Nat) : Int)).e ≠ 0 then ⟨(lopen rm.1 (logN B1 g) ((R / 3 : Nat) : Int)).d, none, [], (lopen rm.1 (logN B1 g) ((R / 3 : Nat) : Int)).e⟩
      else ⟨(lopen rm.1 (logN B1 g) ((R / 3 : Nat) : Int)).d, (lopen rm.1 (logN B1 g) ((R / 3 : Nat) : Int)).l, (lopen rm.1 (logN B1 g) ((R / 3 : Nat) : Int)).ls, 0⟩ := by
    unfold sopenR
    rw [← hrm1]
    by_cases hz : g = 0
    · subst hz
      rw [if_pos rfl, if_pos rfl]
      unfold sopen0
      rw [if_neg (by rintro (h | h | h); exact absurd h (by decide); omega; omega), show ((R : Int).tdiv 3) = ((R / 3 : Nat) : Int) by rw [Int.tdiv_eq_ediv_of_nonneg (by omega)]; omega]
    · rw [if_neg hz, if_neg hz]
      rfl
  rw [hun]
  rcases hrm2 with ⟨h4, h5, h6, h7⟩ | ⟨h4, h5, h6⟩
  · rw [if_pos (by omega)]
    exact ⟨h7, h5.more (by omega), fun e => absurd e h6⟩
  · rw [if_neg (by omega)]
    rcases lopen_vs hR hf h6 hs hl s2 ht with ⟨e1, e2⟩ | ⟨S', d', L', e1, e2, e3, e4⟩
    · rw [e2]
      refine ⟨⟨hf, sn, none, lg, none, t, h6, fun _ => rfl, hs, hl, ht, Nat.zero_le _, Nat.zero_le _, .inl rfl, fun _ => ⟨(fun f h => by cases h), s2, fun f h => by cases h⟩⟩, h5.more (by omega), fun e => ?_⟩
      have := h5.pow e
      omega
    · rw [e2]
      refine ⟨?_, h5.trans e4, fun _ => ⟨rfl, L', S', rfl, rfl, e1, e3⟩⟩
      obtain ⟨hf', hL', sn', lg', hv', hs', hl'⟩ := e3
      rcases e1 with rfl | ⟨x, hX, rfl⟩
      · exact ⟨hf, sn', none, lg', none, [], hv', fun _ => rfl, hs', hl', .inl rfl, Nat.zero_le _, Nat.zero_le _, .inl rfl, fun _ => ⟨(fun f h => by cases h), hl'.safe, fun f h => by cases h⟩⟩
      · have hlsf := hl'.safe
        have ef : framesL (S ++ [x]) = framesL S ++ frameL x := by rw [frames_app, frames_one]
        refine ⟨hf, sn', none, lg', none, frameL x, hv', fun _ => rfl, hs', ?_, .inr ⟨x, x.length + 12, hX, Nat.le_refl _, by rw [List.take_of_length_le (by rw [frame_length]; exact Nat.le_refl _)]⟩, Nat.zero_le _, Nat.zero_le _, .inl rfl, fun _ => ⟨(fun f h => by cases h), hlsf, fun f h => by cases h⟩⟩
        rcases hl' with ⟨_, h8, _⟩ | ⟨safe, kept, h8, h9, h10⟩
        · simp at h8
        · rw [ef, List.append_nil] at h8 h10
          rw [ef] at h9
          exact .inr ⟨safe, kept, h8, by rw [List.length_append] at h9; omega, h10⟩
/-- a commit. -/
theorem commit_gs {R : Nat} {d : Dk} {L : Lg} {g : Nat} {s : List UInt8} {S : List (List UInt8)} (hR : 100 ≤ R ∧ R ≤ 5000) (h : GS R d L g s S) (x : List UInt8) (hx : x.length ≤ 300) :
    (R / 3 < (framesL S).length + (x.length + 12) ∧ lcommit L d x = (L, d, 12)) ∨
    ((framesL S).length + (x.length + 12) ≤ R / 3 ∧ ((∃ L' d', lcommit L d x = (L', d', 0) ∧ GS R d' L' g s (S ++ [x]) ∧ Wn d d' 2) ∨ ∃ L' d', lcommit L d x = (L', d', 13) ∧ PS false R d' g s S (some x) ∧ L'.broken = true ∧ Wn d d' 2)) := by
  have hps := h.ps.any
  obtain ⟨hf, hL, sn, lg, hv, hs, hl⟩ := h
  have hu : d.used ≤ R := hps.used
  unfold lcommit
  subst hL
  simp only []
  rw [if_neg (by decide), if_neg (by omega)]
  by_cases hq : R / 3 < (framesL S).length + (x.length + 12)
  · exact .inl ⟨hq, by rw [if_pos hq]⟩
  refine .inr ⟨by omega, ?_⟩
  rw [if_neg hq]
  have hfx : Fit R S (some x) := ⟨hf.fits, (fun y hy => by cases hy; omega), hf.small, fun y hy => by cases hy; exact hx⟩
  have hfl := frame_length x
  have ef : framesL (S ++ [x]) = framesL S ++ frameL x := by rw [frames_app, frames_one]
  have hfile : (lg.getD fl0).b = framesL S := by rw [hl.b, List.append_nil]
  have hsafe : (lg.getD fl0).safe = (framesL S).length := by
    cases lg with
    | none => rw [← hfile]; rfl
    | some f => have := hl.safe f rfl; rw [← hfile]; exact this
  rcases hv.append_log (fun _ => rfl) (frameL x) (by omega) with ⟨h2, h3⟩ | ⟨d', h2, h3, h4, h5, h6⟩
  · right
    rw [h3]
    refine ⟨_, d, rfl, ?_, rfl, (Wn.refl d).more (by omega)⟩
    exact ⟨hfx, sn, none, lg, none, [], hv, fun _ => rfl, hs, hl, .inl rfl, Nat.zero_le _, Nat.zero_le _, .inl rfl, fun h => by cases h⟩
  · rw [h3]
    unfold lcommit2
    rw [if_neg (fun h => h rfl)]
    simp only []
    rw [hfile, hsafe] at h4
    have hps' : PS false R d' g s S (some x) := ⟨hfx, sn, none, _, none, frameL x, h4, fun _ => rfl, hs, .inr ⟨_, _, rfl, Nat.le_refl _, by simp⟩, .inr ⟨x, x.length + 12, rfl, Nat.le_refl _, by rw [List.take_of_length_le (by omega)]⟩, Nat.zero_le _, Nat.zero_le _, .inl rfl, fun h => by cases h⟩
    rcases h4.sync_log with ⟨h7, h8⟩ | ⟨d2, h7, h8, h9, h10, h11⟩
    · right
      rw [h8]
      exact ⟨_, d', rfl, hps', rfl, by omega, h6⟩
    · left
      rw [h8]
      refine ⟨_, d2, rfl, ⟨⟨by rw [ef, List.length_append, hfl]; omega, (fun y hy => by cases hy), (fun r hr => by
        rcases List.mem_append.1 hr with h5 | h5
        · exact hf.small r h5
        · rw [List.mem_singleton.1 h5]; exact hx), fun y hy => by cases hy⟩, ?_, sn, _, h9, hs, .inr ⟨_, true, by rw [ef, List.append_nil], by rw [ef]; exact Nat.le_refl _, by rw [ef, List.append_nil]; exact Nat.le_refl _⟩⟩, by omega, fun e => h11 (h6 e)⟩
      rw [ef, List.length_append, List.length_append, hfl]
      rfl
end Go.Proofs.YtegekaocbalndaaGreatDoor
end

section
set_option linter.unusedSimpArgs false
set_option linter.unusedVariables false
namespace Go.Proofs.YtegekaocbalndaaGreatDoor
open Go.RowKit

theorem lopen_none {R : Nat} {d : Dk} {k : Nm} (hR : 100 ≤ R ∧ R ≤ 5000) (hk : nameOk k = true) (hf : d.file k = fl0) : lopen d k ((R / 3 : Nat) : Int) = ⟨d, some ⟨k, R / 3, 0, 0, false⟩, [], 0⟩ := by
  unfold lopen
  have hl : d.loose k = 0 := by unfold Dk.loose; rw [hf]; rfl
  have hs : scanL (d.file k).b = ([], 0, 0) := by rw [hf]; rfl
  rw [if_neg (by rintro (h | h | h); rw [hk] at h; cases h; omega; omega), if_neg (by omega), hs]
  unfold lopen2
  dsimp only
  rw [if_neg (fun h => h rfl), if_neg (by decide), if_neg (by decide)]
  unfold lopen3
  dsimp only
  rw [if_neg (fun h => h rfl), if_neg (by omega), Int.toNat_natCast]
  rfl
/-- how a Compact ends. -/
def CRes (R : Nat) (d : Dk) (g : Nat) (s : List UInt8) (S : List (List UInt8)) (b : List UInt8) (z : Nat) (d' : Dk) (g' : Nat) (L'' : Lg) : Prop :=
  Wn d d' 4 ∧ ((z = 0 ∧ g' = g + 1 ∧ GS R d' L'' (g + 1) b []) ∨ (z = 13 ∧ (PS false R d' g s S none ∨ PS false R d' (g + 1) b [] none)))
theorem compact_gs {R : Nat} {d : Dk} {L : Lg} {g : Nat} {s : List UInt8} {S : List (List UInt8)} (hR : 100 ≤ R ∧ R ≤ 5000) (h : GS R d L g s S) (hg : g < 60) (hw : d.writes < 1000000000) (b : List UInt8) (hb : smallB b.length R = true) :
    ((k1 d B1 g).2 = 0 → (k2 d B1 g b).2 = 0 → (k3 d B1 g b).2 = 0 → (k4 d B1 g b).2 = 0 → (k5l d B1 R g b).e = 0 ∧ (k5l d B1 R g b).l = some ⟨logN B1 (g + 1), R / 3, 0, 0, false⟩ ∧ ((k4 d B1 g b).1.file (logN B1 (g + 1))).b.length ≤ 1000000 ∧ (k5l d B1 R g b).d.writes < 10000000000) ∧
    ∀ z d' g' L'', CEnd (k1 d B1 g) (k2 d B1 g b) (k3 d B1 g b) (k4 d B1 g b) (k5 d B1 R g b) g L ⟨logN B1 (g + 1), R / 3, 0, 0, false⟩ z d' g' L'' → CRes R d g s S b z d' g' L'' := by
  have hps := h.ps.any
  obtain ⟨hf, hL, sn, lg, hv, hs, hl⟩ := h
  have hu : d.used ≤ R := hps.used
  have hfl : (snapB (g + 1) b).length ≤ R / 3 := by rw [snapB_len]; exact (small_len hb).2
  have hlg := hl.len
  have hfits := hf.fits
  rw [List.append_nil] at hlg
  have e1 : k1 d B1 g = (d, 0) := by
    unfold k1
    rw [rm_skip _ _ hv.file_tmp.2, rm_skip _ _ hv.file_next.2]; rfl
  have k5u : k5 d B1 R g b = rmv (k5l d B1 R g b).d [logN B1 g] := rfl
  have k5lu : k5l d B1 R g b = lopen (k4 d B1 g b).1 (logN B1 (g + 1)) ((R / 3 : Nat) : Int) := rfl
  have k4u : k4 d B1 g b = (k3 d B1 g b).1.rename (tmpN B1) (snapN B1) := rfl
  have k3u : k3 d B1 g b = (k2 d B1 g b).1.sync (tmpN B1) := rfl
  have k2u : k2 d B1 g b = d.append (tmpN B1) (snapB (g + 1) b) := by unfold k2; rw [e1]
  generalize k5 d B1 R g b = r5 at *
  generalize k5l d B1 R g b = lo at *
  generalize k4 d B1 g b = r4 at *
  generalize k3 d B1 g b = r3 at *
  generalize k2 d B1 g b = r2 at *
  generalize k1 d B1 g = r1 at *
  subst e1
  have hff : ∀ D : Dk, Fit R S none := fun _ => hf
  rcases hv.append_tmp (fun _ => rfl) (snapB (g + 1) b) (by omega) with ⟨p1, p2⟩ | ⟨d2, p1, p2, v2, p3, p4⟩
  · rw [p2] at k2u; subst k2u
    refine ⟨(fun _ h => by cases h), fun z d' g' L'' hc => ?_⟩
    rcases hc with ⟨c, _⟩ | ⟨_, _, rfl, rfl, rfl, rfl⟩ | ⟨_, c, _⟩ | ⟨_, c, _⟩ | ⟨_, c, _⟩
    · exact absurd rfl c
    · exact ⟨(Wn.refl _).more (by omega), .inr ⟨rfl, .inl hps⟩⟩
    all_goals cases c
  rw [p2] at k2u; subst k2u
  have v2' : VS d2 g sn (some ⟨snapB (g + 1) b, 0, false⟩) lg none := v2
  clear v2
  have w2 : Wn d d2 1 := ⟨by omega, p4⟩
  have ps2 : PS false R d2 g s S none := ⟨hf, sn, _, lg, none, [], v2', fun _ => rfl, hs, hl, .inl rfl, hfl, Nat.zero_le _, .inr rfl, fun h => by cases h⟩
  simp only at k3u
  rcases v2'.sync_tmp with ⟨q1, q2⟩ | ⟨d3, q1, q2, v3, q3, q4⟩
  · rw [q2] at k3u; subst k3u
    refine ⟨(fun _ _ h => by cases h), fun z d' g' L'' hc => ?_⟩
    rcases hc with ⟨c, _⟩ | ⟨_, c, _⟩ | ⟨_, _, _, rfl, rfl, rfl, rfl⟩ | ⟨_, _, c, _⟩ | ⟨_, _, c, _⟩
    · exact absurd rfl c
    · exact absurd rfl c
    · exact ⟨w2.more (by omega), .inr ⟨rfl, .inl ps2⟩⟩
    all_goals cases c
  rw [q2] at k3u; subst k3u
  have w3 : Wn d d3 2 := w2.trans (⟨by omega, q4⟩ : Wn d2 d3 1)
  have ps3 : PS false R d3 g s S none := ⟨hf, sn, _, lg, none, [], v3, fun _ => rfl, hs, hl, .inl rfl, hfl, Nat.zero_le _, .inr rfl, fun h => by cases h⟩
  simp only at k4u
  rcases v3.rename rfl with ⟨t1, t2⟩ | ⟨d4, t1, t2, v4, t3, t4⟩
  · rw [t2] at k4u; subst k4u
    refine ⟨(fun _ _ _ h => by cases h), fun z d' g' L'' hc => ?_⟩
    rcases hc with ⟨c, _⟩ | ⟨_, c, _⟩ | ⟨_, _, c, _⟩ | ⟨_, _, _, _, rfl, rfl, rfl, rfl⟩ | ⟨_, _, _, c, _⟩
    · exact absurd rfl c
    · exact absurd rfl c
    · exact absurd rfl c
    · exact ⟨w3.more (by omega), .inr ⟨rfl, .inl ps3⟩⟩
    · cases c
  rw [t2] at k4u; subst k4u
  have w4 : Wn d d4 3 := w3.trans (⟨by omega, t4⟩ : Wn d3 d4 1)
  have v4' := v4.bump hg
  simp only at k5lu v4'
  have hsn' : SnF R (g + 1) b (some ⟨snapB (g + 1) b, (snapB (g + 1) b).length, true⟩) := .inr ⟨by omega, hb, true, rfl⟩
  have hlg' : LgF [] [] (none : Option Fl) := .inl ⟨rfl, rfl, rfl⟩
  have hf' : Fit R [] none := ⟨Nat.zero_le _, (fun x h => by cases h), (fun r h => by simp at h), fun x h => by cases h⟩
  rw [lopen_none hR (log_ok (by omega)) v4'.file_log.1] at k5lu
  subst k5lu
  simp only at k5u
  have ps4 : PS false R d4 (g + 1) b [] none := ⟨hf', _, none, none, lg, [], v4', fun h => by omega, hsn', hlg', .inl rfl, Nat.zero_le _, by omega, .inl rfl, fun h => by cases h⟩
  have h4 := w4.few
  refine ⟨fun _ _ _ _ => ⟨rfl, rfl, ?_, by show d4.writes < _; omega⟩, fun z d' g' L'' hc => ?_⟩
  · show (d4.file (logN B1 (g + 1))).b.length ≤ _
    rw [v4'.file_log.1]; exact Nat.zero_le _
  have hc5 : z = r5.2 ∧ d' = r5.1 ∧ g' = g + 1 ∧ L'' = ⟨logN B1 (g + 1), R / 3, 0, 0, false⟩ := by
    rcases hc with ⟨c, _⟩ | ⟨_, c, _⟩ | ⟨_, _, c, _⟩ | ⟨_, _, _, c, _⟩ | ⟨_, _, _, _, c⟩
    · exact absurd rfl c
    · exact absurd rfl c
    · exact absurd rfl c
    · exact absurd rfl c
    · exact c
  obtain ⟨rfl, rfl, rfl, rfl⟩ := hc5
  have ho := v4'.rm_old (by omega) []
  rw [Nat.add_sub_cancel] at ho
  rcases ho with ⟨u1, u2⟩ | ⟨d5, u1, v5, u3⟩
  · rw [u2] at k5u; subst k5u
    exact ⟨w4.more (by omega), .inr ⟨rfl, .inr ps4⟩⟩
  · rw [u1] at k5u
    have k5v : r5 = (d5, 0) := k5u
    subst k5v
    exact ⟨w4.trans u3, .inl ⟨rfl, rfl, hf', rfl, _, none, v5, hsn', hlg'⟩⟩
end Go.Proofs.YtegekaocbalndaaGreatDoor
end

section
set_option linter.unusedSimpArgs false
set_option linter.unusedVariables false
namespace Go.Proofs.YtegekaocbalndaaGreatDoor
open Go.RowKit

theorem PS.left {sf : Bool} {R : Nat} {d : Dk} {g : Nat} {s : List UInt8} {S : List (List UInt8)} {X : Option (List UInt8)} (h : PS sf R d g s S X) (n : Int) (h1 : -1 ≤ n ∧ n ≤ 9223372036854775807) (wr : Nat) : PS sf R ⟨d.size, d.fs, n, wr⟩ g s S X := by
  obtain ⟨hf, sn, tm, lg, old, t, hv, h0, hs, hl, ht, a1, a2, a3, a4⟩ := h
  exact ⟨hf, sn, tm, lg, old, t, ⟨⟨hv.ok.size, hv.ok.used, hv.ok.count, hv.ok.rising, hv.ok.safe, h1⟩, hv.size, hv.view, hv.gen⟩, h0, hs, hl, ht, a1, a2, a3, a4⟩
theorem GS.left {R : Nat} {d : Dk} {L : Lg} {g : Nat} {s : List UInt8} {S : List (List UInt8)} (h : GS R d L g s S) (n : Int) (h1 : -1 ≤ n ∧ n ≤ 9223372036854775807) (wr : Nat) : GS R ⟨d.size, d.fs, n, wr⟩ L g s S := by
  obtain ⟨hf, hL, sn, lg, hv, hs, hl⟩ := h
  exact ⟨hf, hL, sn, lg, ⟨⟨hv.ok.size, hv.ok.used, hv.ok.count, hv.ok.rising, hv.ok.safe, h1⟩, hv.size, hv.view, hv.gen⟩, hs, hl⟩
theorem GS.lok {R : Nat} {d : Dk} {L : Lg} {g : Nat} {s : List UInt8} {S : List (List UInt8)} (hR : R ≤ 5000) (h : GS R d L g s S) : L.Ok := by
  have hn : ∀ S : List (List UInt8), S.length ≤ (framesL S).length := fun S => by
    induction S with
    | nil => exact Nat.le_refl _
    | cons r S ih => rw [frames_cons, List.length_append, frame_length, List.length_cons]; omega
  obtain ⟨hf, hL, sn, lg, hv, hs, hl⟩ := h
  subst hL
  have := hf.fits; have := hv.gen
  exact ⟨by show R / 3 ≤ _; omega, hf.fits, hn S, logN_len (base := B1) (by decide) g⟩
theorem lcommit_ok {L : Lg} {d : Dk} {x : List UInt8} {L' : Lg} {d' : Dk} (h : L.Ok) (hc : lcommit L d x = (L', d', 13)) : L'.Ok := by
  unfold lcommit at hc
  split at hc
  · cases hc
  split at hc
  · cases hc
  split at hc
  · cases hc
  unfold lcommit2 at hc
  split at hc
  · obtain ⟨h1, _⟩ := Prod.mk.inj hc
    subst h1
    exact ⟨h.reserve, h.size, h.n, h.name⟩
  unfold lcommit3 at hc
  split at hc
  · obtain ⟨h1, _⟩ := Prod.mk.inj hc
    subst h1
    exact ⟨h.reserve, h.size, h.n, h.name⟩
  · cases hc
theorem log0_ok {R g : Nat} (hR : R ≤ 5000) : Lg.Ok ⟨logN B1 g, R / 3, 0, 0, false⟩ := ⟨by show R / 3 ≤ _; omega, Nat.zero_le _, Nat.le_refl _, logN_len (base := B1) (by decide) g⟩
theorem rmv_ok : ∀ (ks : List Nm) (d : Dk), d.Ok → (rmv d ks).1.Ok ∧ (rmv d ks).1.size = d.size
  | [], d, h => ⟨h, rfl⟩
  | k :: ks, d, h => by
    have hs : (d.remove k).1.size = d.size := by
      unfold Dk.remove
      split
      · rfl
      · unfold Dk.wr; split <;> rfl
    have h1 := rmv_ok ks d h
    have h2 := rmv_ok ks (d.remove k).1 (h.remove k)
    rw [rmv_cons]
    split
    · exact h1
    · split
      · exact ⟨h2.1, h2.2.trans hs⟩
      · exact ⟨h.remove k, hs⟩
theorem rmv_file {d : Dk} (h : d.Ok) (hs : d.size = 20000) (ks : List Nm) (k : Nm) : ((rmv d ks).1.file k).b.length ≤ 1000000 := by
  obtain ⟨h1, h2⟩ := rmv_ok ks d h
  have h3 := (h1.file k).2; have h4 := h1.used
  omega
/-- what a store opened anew tells of its use. -/
theorem GS.usum {R : Nat} {d : Dk} {L : Lg} {g : Nat} {s : List UInt8} {S : List (List UInt8)} (h : GS R d L g s S) : usum d (unames B1 g) = d.used := by
  obtain ⟨hf, hL, sn, lg, hv, hs, hl⟩ := h
  have hf1 : ∀ o : Option Fl, (o.getD fl0).b.length = ol o := fun o => by cases o <;> rfl
  rw [hv.used (fun _ => rfl)]
  have h0 : ol (none : Option Fl) = 0 := rfl
  unfold unames Go.Proofs.YtegekaocbalndaaGreatDoor.usum
  rw [List.map_append, List.sum_append]
  simp only [List.map_cons, List.map_nil, List.sum_cons, List.sum_nil]
  rw [hv.file_snap.1, hv.file_tmp.1, hv.file_log.1, hv.file_next.1, hf1, hf1, hf1]
  have h1 : fl0.b.length = 0 := rfl
  have h2 : (List.map (fun k => (d.file k).b.length) (if 0 < g then [logN B1 (g - 1)] else [])).sum = 0 := by
    split
    · rename_i hg
      simp only [List.map_cons, List.map_nil, List.sum_cons, List.sum_nil]
      rw [(hv.file_old hg).1]; rfl
    · rfl
  omega
/-- where a law stands whose writes fail: what may be opened is one of two. -/
def Outc (R : Nat) (d : Dk) (ns : List UInt8) (nS : List (List UInt8)) (ds : List UInt8) (dS : List (List UInt8)) : Prop :=
  ∃ g s S X, PS false R d g s S X ∧ ∀ S', (S' = S ∨ ∃ x, X = some x ∧ S' = S ++ [x]) → (s = ns ∧ S' = nS) ∨ (s = ds ∧ S' = dS)
theorem GS.outc {R : Nat} {d : Dk} {L : Lg} {g : Nat} {s : List UInt8} {S : List (List UInt8)} (h : GS R d L g s S) (ds : List UInt8) (dS : List (List UInt8)) : Outc R d s S ds dS :=
  ⟨g, s, S, none, h.ps.any, fun S' hS => by
    rcases hS with rfl | ⟨x, hx, _⟩
    · exact .inl ⟨rfl, rfl⟩
    · cases hx⟩
/-- a crash, a stop, an open, a crash, two opens: what is told then. -/
theorem reopens_plain {R : Nat} {d : Dk} {ns : List UInt8} {nS : List (List UInt8)} {ds : List UInt8} {dS : List (List UInt8)} (hR : 100 ≤ R ∧ R ≤ 5000) (h : Outc R d ns nS ds dS) (hw : d.writes ≤ 1000) (t t2 : List Int) (again : Nat) (ha : (again : Int) ≤ 9223372036854775807) :
    ∃ g s S X, PS true R (d.crash t) g s S X ∧ (d.crash t).stop again = (⟨(d.crash t).size, (d.crash t).fs, again, d.writes⟩, 0) ∧ PS true R ⟨(d.crash t).size, (d.crash t).fs, again, d.writes⟩ g s S X ∧ PS true R (sopenR ⟨(d.crash t).size, (d.crash t).fs, again, d.writes⟩ R g).d g s S X ∧
      (sopenR ⟨(d.crash t).size, (d.crash t).fs, again, d.writes⟩ R g).d.writes ≤ 1003 ∧ PS true R ((sopenR ⟨(d.crash t).size, (d.crash t).fs, again, d.writes⟩ R g).d.crash t2) g s S X ∧
      ∃ L S' d5 L2 d6, ((s = ns ∧ S' = nS) ∨ (s = ds ∧ S' = dS)) ∧ sopenR ((sopenR ⟨(d.crash t).size, (d.crash t).fs, again, d.writes⟩ R g).d.crash t2) R g = ⟨d5, some L, S', 0⟩ ∧ GS R d5 L g s S' ∧ d5.writes ≤ 1006 ∧ sopenR d5 R g = ⟨d6, some L2, S', 0⟩ ∧ GS R d6 L2 g s S' ∧ d6.writes ≤ 1009 := by
  obtain ⟨g, s, S, X, hp, ho⟩ := h
  have h1 := hp.crash t
  have h2 := h1.left again ⟨by omega, ha⟩ d.writes
  obtain ⟨h3, h4, _⟩ := sopen_ps hR h2
  have hst : (d.crash t).stop again = (⟨(d.crash t).size, (d.crash t).fs, again, d.writes⟩, 0) := by
    unfold Dk.stop
    rw [if_neg (by omega), if_neg (by show ¬ (-1 : Int) = 0; decide)]
    rfl
  have h4' := h4.few
  simp only at h4'
  refine ⟨g, s, S, X, h1, hst, h2, h3, by omega, h3.crash t2, ?_⟩
  generalize sopenR ⟨(d.crash t).size, (d.crash t).fs, again, d.writes⟩ R g = r at *
  have h5 := h3.crash t2
  obtain ⟨h6, h7, h8⟩ := sopen_ps hR h5
  obtain ⟨e1, L, S', e2, e3, e4, e5⟩ := h8 rfl
  have h9 := h7.few
  have hl := h7.pow rfl
  have h9' : (r.d.crash t2).writes = r.d.writes := rfl
  generalize sopenR (r.d.crash t2) R g = r5 at *
  obtain ⟨h10, h11, h12⟩ := sopen_ps hR e5.ps
  obtain ⟨f1, L2, S2, f2, f3, f4, f5⟩ := h12 hl
  have h13 := h11.few
  obtain rfl : S2 = S' := by
    rcases f4 with f4 | ⟨x, hx, _⟩
    · exact f4
    · cases hx
  obtain ⟨d5, l5, ls5, z5⟩ := r5
  simp only at *
  generalize hr6 : sopenR d5 R g = r6 at *
  obtain ⟨d6, l6, ls6, z6⟩ := r6
  simp only at *
  subst e1 e2 e3 f1 f2 f3
  exact ⟨L, _, d5, L2, d6, ho _ e4, rfl, e5, by omega, hr6, f5, by omega⟩
end Go.Proofs.YtegekaocbalndaaGreatDoor
end

section
set_option linter.unusedSimpArgs false
set_option linter.unusedVariables false
namespace Go.Proofs.YtegekaocbalndaaGreatDoor
open Go.RowKit

def SRP (w : World) (p m R g : Nat) (s : List UInt8) (r : SOpenR) (e : Ending) (w' : World) : Prop := DiskAt w' p m r.d ∧ Dw w w' p m ∧ ∃ pv As sl cs A ll c, e = .returned (.tuple #[pv, .slice As sl cs, .slice A ll c, .int .i64 (r.e : Nat)]) ∧ (r.e = 0 → sl = s.length ∧ ll = r.ls.length ∧ Bs w' w'.heap.size As s ∧ (As = none → s = []) ∧ Ls w' w'.heap.size A r.ls ∧ (A = none → r.ls = []) ∧ StV w w' p B1 R (g : Nat) pv r.l)
theorem sopenR_at {w : World} {p m : Nat} {d : Dk} (h : DiskAt w p m d) (hw : d.writes < 1000000000) (R : Nat) (hR : 100 ≤ R ∧ R ≤ 5000) {g : Nat} {s : List UInt8} {S : List (List UInt8)} {X : Option (List UInt8)} (hp : PS true R d g s S X) :
    Calls Tryz.prog 7 #[.pointer (some ⟨p, 0, none⟩), .string (str B1), .int .i64 R] w (SRP w p m R g s (sopenR d R g)) := by
  obtain ⟨hok, hsz, hg⟩ := hp.ok
  obtain ⟨hf, sn, tm, lg, old, t, hv, h0, hs, hl, ht, a1, a2, a3, a4⟩ := hp
  rcases hs with ⟨hz, hs0, hsn⟩ | ⟨hz, hsm, kept, hsn⟩
  · subst hz hs0 hsn
    have hh := sopen0_at h (by omega) B1 (by decide) (R : Int) (by omega) hv.file_snap.2 (rmv_file hok hsz _ _)
    have e : sopenR d R 0 = sopen0 d B1 (R : Int) := if_pos rfl
    rw [e]
    refine hh.mono ?_
    rintro e w' ⟨h1, h2, pv, A, c, rfl, h3, h4, h5, h6⟩
    exact ⟨h1, h2, pv, none, 0, 0, A, _, c, rfl, fun _ => ⟨rfl, rfl, Bs.nil _ _ _, fun _ => rfl, h3, h4, h6⟩⟩
  · subst hsn
    have hh := sopen1_at h (by omega) B1 (by decide) (by decide) R (by omega) (by omega) g hz (by omega) s hsm hv.file_snap.2 (by rw [hv.file_snap.1]; rfl) (rmv_file hok hsz _ _)
    have e : sopenR d R g = sopen1 d B1 R g := if_neg (by omega)
    rw [e]
    refine hh.mono ?_
    rintro e w' ⟨h1, h2, ⟨h3, h4, rfl⟩ | ⟨h3, pv, As, cs, A, c, rfl, h4, h5, h6, h7, h8, h9⟩⟩
    · exact ⟨h1, h2, _, _, _, _, _, _, _, rfl, fun h => absurd h h3⟩
    · refine ⟨h1, h2, pv, As, _, cs, A, _, c, ?_, fun _ => ⟨rfl, rfl, h4, h5, h6, h7, h9⟩⟩
      rw [h3]; rfl
theorem get_ne {α : Type} {q : Nm × α} : ∀ l : Nl α, q ∈ l → nget l q.1 ≠ none
  | [], h => by simp at h
  | p :: l, h => by
    rw [nget_cons]
    split
    · exact fun h => by cases h
    · rename_i hne
      rcases List.mem_cons.1 h with rfl | h
      · exact absurd (by simp) hne
      · exact get_ne l h
theorem PS.names {sf : Bool} {R : Nat} {d : Dk} {g : Nat} {s : List UInt8} {S : List (List UInt8)} {X : Option (List UInt8)} (h : PS sf R d g s S X) : ∀ q ∈ d.fs, q.1.length ≤ 9223372036854775807 := by
  obtain ⟨hf, sn, tm, lg, old, t, hv, _⟩ := h
  intro q hq
  have h1 := get_ne d.fs hq
  rw [hv.view] at h1
  unfold vw at h1
  have hl := fun g => logN_len (base := B1) (by decide) g
  by_cases k1 : q.1 = snapN B1
  · rw [k1]; have := snapN_len (base := B1) (by decide); omega
  by_cases k2 : q.1 = tmpN B1
  · rw [k2]; have := tmpN_len (base := B1) (by decide); omega
  by_cases k3 : q.1 = logN B1 g
  · rw [k3]; have := hl g; omega
  by_cases k4 : 0 < g ∧ q.1 = logN B1 (g - 1)
  · rw [k4.2]; have := hl (g - 1); omega
  rw [if_neg k1, if_neg k2, if_neg k3, if_neg k4] at h1
  exact absurd rfl h1
end Go.Proofs.YtegekaocbalndaaGreatDoor
end
