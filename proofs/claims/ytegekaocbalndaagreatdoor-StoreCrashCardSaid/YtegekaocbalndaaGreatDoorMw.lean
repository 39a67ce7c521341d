/- disks behind a crash: plain. -/
import Derived.Test.YtegekaocbalndaaGreatDoorMg19
set_option linter.unusedSimpArgs false
set_option linter.unusedVariables false
namespace Go.Proofs.YtegekaocbalndaaGreatDoor
open Go.RowKit

/-- what is kept of what is loose. -/
def keepOf (t : List Int) (loose : Nat) : Nat := (max 0 (min (t.headD 0) (loose : Int))).toNat
/-- a file behind a crash. -/
def tornF (f : Fl) (t : List Int) : Fl := if f.safe < f.b.length then ⟨f.b.take (f.safe + keepOf t (f.b.length - f.safe)), f.safe + keepOf t (f.b.length - f.safe), f.kept⟩ else f
def dropT (f : Fl) (t : List Int) : List Int := if f.safe < f.b.length then t.tail else t
def goneF (f : Fl) : Bool := !f.kept && decide (f.b.length = 0)
def crashL : Nl Fl → List Int → Nl Fl
  | [], _ => []
  | p :: r, t => if goneF (tornF p.2 t) = true then crashL r (dropT p.2 t) else (p.1, ⟨(tornF p.2 t).b, (tornF p.2 t).safe, true⟩) :: crashL r (dropT p.2 t)
def dropL : Nl Fl → List Int → List Int
  | [], t => t
  | p :: r, t => dropL r (dropT p.2 t)
def Dk.crash (d : Dk) (t : List Int) : Dk := ⟨d.size, crashL d.fs t, -1, d.writes⟩
theorem crashL_app : ∀ (a b : Nl Fl) (t : List Int), crashL (a ++ b) t = crashL a t ++ crashL b (dropL a t)
  | [], _, _ => rfl
  | p :: r, b, t => by
    show (if goneF (tornF p.2 t) = true then crashL (r ++ b) (dropT p.2 t) else (p.1, ⟨(tornF p.2 t).b, (tornF p.2 t).safe, true⟩) :: crashL (r ++ b) (dropT p.2 t)) = (if goneF (tornF p.2 t) = true then crashL r (dropT p.2 t) else (p.1, ⟨(tornF p.2 t).b, (tornF p.2 t).safe, true⟩) :: crashL r (dropT p.2 t)) ++ crashL b (dropL r (dropT p.2 t))
    rw [crashL_app r b _]
    split
    · rfl
    · rfl
theorem dropL_app : ∀ (a b : Nl Fl) (t : List Int), dropL (a ++ b) t = dropL b (dropL a t)
  | [], _, _ => rfl
  | p :: r, b, t => dropL_app r b _
theorem keepOf_le (t : List Int) (n : Nat) : keepOf t n ≤ n := by unfold keepOf; omega
theorem tornF_len (f : Fl) (t : List Int) (h : f.safe ≤ f.b.length) : (tornF f t).safe ≤ (tornF f t).b.length ∧ (tornF f t).b.length ≤ f.b.length := by
  unfold tornF
  split
  · have := keepOf_le t (f.b.length - f.safe)
    simp only [List.length_take]
    omega
  · exact ⟨h, Nat.le_refl _⟩
def names {α : Type} (l : Nl α) : List Nm := l.map (·.1)
theorem crashL_names : ∀ (l : Nl Fl) (t : List Int), (names (crashL l t)).Sublist (names l)
  | [], _ => List.Sublist.refl _
  | p :: r, t => by
    unfold crashL
    split
    · exact (crashL_names r _).trans (List.sublist_cons_self _ _)
    · exact (crashL_names r _).cons_cons _
theorem Rising.of_names {α β : Type} {l : Nl α} {l' : Nl β} (h : Rising l') (hs : (names l).Sublist (names l')) : Rising l := by
  unfold Rising at h ⊢
  have h1 : (names l').Pairwise fun a b => bytesBefore a b = true := by unfold names; rw [List.pairwise_map]; exact h
  have h2 := h1.sublist hs
  unfold names at h2
  rwa [List.pairwise_map] at h2
theorem crashL_total : ∀ (l : Nl Fl) (t : List Int), (∀ p ∈ l, p.2.safe ≤ p.2.b.length) → total flen (crashL l t) ≤ total flen l ∧ (crashL l t).length ≤ l.length ∧ ∀ p ∈ crashL l t, p.2.safe ≤ p.2.b.length
  | [], _, _ => ⟨Nat.le_refl _, Nat.le_refl _, by simp [crashL]⟩
  | p :: r, t, h => by
    obtain ⟨h1, h2, h3⟩ := crashL_total r (dropT p.2 t) fun q hq => h q (by simp [hq])
    obtain ⟨h4, h5⟩ := tornF_len p.2 t (h p (by simp))
    unfold crashL
    split
    · rw [total_cons]
      exact ⟨by omega, by simp; omega, h3⟩
    · rw [total_cons, total_cons]
      refine ⟨?_, by simp; omega, fun q hq => ?_⟩
      · show flen _ + _ ≤ flen _ + _
        unfold flen at *
        simp only []
        omega
      · rcases List.mem_cons.1 hq with rfl | hq
        · exact h4
        · exact h3 q hq
theorem Dk.Ok.crash {d : Dk} (h : d.Ok) (t : List Int) : (d.crash t).Ok := by
  obtain ⟨h1, h2, h3⟩ := crashL_total d.fs t h.safe
  exact ⟨h.size, Nat.le_trans h1 h.used, Nat.le_trans h2 h.count, h.rising.of_names (crashL_names _ _), h3, by show (-1 : Int) ≤ -1 ∧ (-1 : Int) ≤ _; decide⟩
/-- laid where it was. -/
theorem ndel_mid {α : Type} {a b : Nl α} {p : Nm × α} (h : Rising (a ++ p :: b)) : ndel (a ++ p :: b) p.1 = a ++ b := by
  obtain ⟨h1, h2, h3⟩ := List.pairwise_append.1 h.nodup
  obtain ⟨h4, h5⟩ := List.pairwise_cons.1 h2
  have e1 : ndel a p.1 = a := ndel_none fun q hq => h3 q hq p (by simp)
  have e2 : ndel b p.1 = b := ndel_none fun q hq => (h4 q hq).symm
  unfold ndel at *
  rw [List.filter_append, e1, List.filter_cons, e2]
  simp
theorem nins_mid {α : Type} {x : Nm × α} : ∀ {a b : Nl α}, (∀ q ∈ a, bytesBefore q.1 x.1 = true) → (∀ q ∈ b, bytesBefore x.1 q.1 = true) → nins x (a ++ b) = a ++ x :: b
  | [], [], _, _ => rfl
  | [], y :: b, _, h => by
    show (if bytesBefore x.1 y.1 = true then _ else _) = _
    rw [if_pos (h y (by simp))]; rfl
  | y :: a, b, h1, h2 => by
    show (if bytesBefore x.1 y.1 = true then _ else _) = _
    have h3 := h1 y (by simp)
    rw [if_neg (fun h4 => by have := WideShapes.bytes_trans _ _ _ h3 h4; rw [WideAt.bytes_irrefl] at this; cases this)]
    have := nins_mid (x := x) (a := a) (b := b) (fun q hq => h1 q (by simp [hq])) h2
    show y :: nins x (a ++ b) = y :: (a ++ x :: b)
    rw [this]
theorem nput_mid {α : Type} {a b : Nl α} {k : Nm} {v v' : α} (h : Rising (a ++ (k, v) :: b)) : nput (a ++ (k, v) :: b) k v' = a ++ (k, v') :: b := by
  unfold nput
  rw [ndel_mid h]
  obtain ⟨h1, h2, h3⟩ := List.pairwise_append.1 h
  obtain ⟨h4, h5⟩ := List.pairwise_cons.1 h2
  exact nins_mid (fun q hq => h3 q hq (k, v) (by simp)) h4
theorem nget_mid {α : Type} {a b : Nl α} {k : Nm} {v : α} (h : Rising (a ++ (k, v) :: b)) : nget (a ++ (k, v) :: b) k = some v := by
  obtain ⟨h1, h2, h3⟩ := List.pairwise_append.1 h.nodup
  have hn : ∀ q ∈ a, ¬ (q.1 == k) = true := fun q hq => by simpa using h3 q hq (k, v) (by simp)
  have e : (a ++ (k, v) :: b).find? (fun p => p.1 == k) = some (k, v) := by
    rw [List.find?_append, List.find?_eq_none.2 hn]
    simp
  unfold nget
  rw [e]; rfl
theorem crash_rising {a b : Nl Fl} (t : List Int) (h : Rising (a ++ b)) : Rising (crashL a t ++ b) := by
  refine h.of_names ?_
  unfold names
  rw [List.map_append, List.map_append]
  exact (crashL_names a t).append (List.Sublist.refl _)
end Go.Proofs.YtegekaocbalndaaGreatDoor
