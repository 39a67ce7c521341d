/- several texts in one: SHA-256 as plain functions on UInt32, UInt8 and lists. No program., The hash object as plain data: what its cells are; what a byte does to it. No program., 'append' on a row of the call's own, elements of one cell: one element, and a whole slice , 'string(b)' of a slice of bytes; 'make([]T, n)'. Over any program. -/
import Derived.Test.YtegekaocbalndaaGreatDoorNum
import Derived.Test.YtegekaocbalndaaGreatDoorKit
import Derived.Maps.AppendAt
import Derived.Deep.AppendLies
import Derived.OwnWalk
import Derived.Laws.CopyOwn
section
set_option linter.unusedSimpArgs false
set_option linter.unusedVariables false
namespace Go.Proofs.YtegekaocbalndaaGreatDoor
open Go.RowKit

theorem getD_app {α : Type} (l r : List α) (i : Nat) (d : α) (h : i < l.length) : (l ++ r).getD i d = l.getD i d := by
  simp [List.getD_eq_getElem?_getD, List.getElem?_append_left h]

/-- the eight numbers. -/
structure St where
  a : UInt32
  b : UInt32
  c : UInt32
  d : UInt32
  e : UInt32
  f : UInt32
  g : UInt32
  h : UInt32

def St.init : St := ⟨1779033703, 3144134277, 1013904242, 2773480762, 1359893119, 2600822924, 528734635, 1541459225⟩

def kTab : List UInt32 := [1116352408, 1899447441, 3049323471, 3921009573, 961987163, 1508970993, 2453635748, 2870763221, 3624381080, 310598401, 607225278, 1426881987, 1925078388, 2162078206, 2614888103, 3248222580, 3835390401, 4022224774, 264347078, 604807628, 770255983, 1249150122, 1555081692, 1996064986, 2554220882, 2821834349, 2952996808, 3210313671, 3336571891, 3584528711, 113926993, 338241895, 666307205, 773529912, 1294757372, 1396182291, 1695183700, 1986661051, 2177026350, 2456956037, 2730485921, 2820302411, 3259730800, 3345764771, 3516065817, 3600352804, 4094571909, 275423344, 430227734, 506948616, 659060556, 883997877, 958139571, 1322822218, 1537002063, 1747873779, 1955562222, 2024104815, 2227730452, 2361852424, 2428436474, 2756734187, 3204031479, 3329325298]

def s0 (x : UInt32) : UInt32 := rotr x 7 ^^^ rotr x 18 ^^^ x >>> 3
def s1 (x : UInt32) : UInt32 := rotr x 17 ^^^ rotr x 19 ^^^ x >>> 10
def S0 (x : UInt32) : UInt32 := rotr x 2 ^^^ rotr x 13 ^^^ rotr x 22
def S1 (x : UInt32) : UInt32 := rotr x 6 ^^^ rotr x 11 ^^^ rotr x 25

/-- four bytes as a number, the highest first. -/
def be (a b c d : UInt8) : UInt32 := a.toUInt32 <<< 24 ||| b.toUInt32 <<< 16 ||| c.toUInt32 <<< 8 ||| d.toUInt32

/-- the word behind those that are there. -/
def nextW (m : Nat → UInt8) (l : List UInt32) : UInt32 :=
  if l.length < 16 then be (m (4 * l.length)) (m (4 * l.length + 1)) (m (4 * l.length + 2)) (m (4 * l.length + 3))
  else s1 (l.getD (l.length - 2) 0) + l.getD (l.length - 7) 0 + s0 (l.getD (l.length - 15) 0) + l.getD (l.length - 16) 0
/-- the first t words. -/
def sched (m : Nat → UInt8) : Nat → List UInt32
  | 0 => []
  | t + 1 => sched m t ++ [nextW m (sched m t)]

def rndP (s : St) (k w : UInt32) : UInt32 := s.h + S1 s.e + (s.e &&& s.f ^^^ (~~~ s.e) &&& s.g) + k + w
def rndQ (s : St) : UInt32 := S0 s.a + (s.a &&& s.b ^^^ s.a &&& s.c ^^^ s.b &&& s.c)
def rnd (s : St) (k w : UInt32) : St := ⟨rndP s k w + rndQ s, s.a, s.b, s.c, s.d + rndP s k w, s.e, s.f, s.g⟩
/-- behind t rounds. -/
def rounds_ (s : St) (ws : List UInt32) : Nat → St
  | 0 => s
  | t + 1 => rnd (rounds_ s ws t) (kTab.getD t 0) (ws.getD t 0)
def St.plus (x y : St) : St := ⟨x.a + y.a, x.b + y.b, x.c + y.c, x.d + y.d, x.e + y.e, x.f + y.f, x.g + y.g, x.h + y.h⟩
/-- the eight numbers behind a block. -/
def compress (s : St) (m : Nat → UInt8) : St := s.plus (rounds_ s (sched m 64) 64)

theorem sched_length (m : Nat → UInt8) (t : Nat) : (sched m t).length = t := by
  induction t with
  | zero => rfl
  | succ t ih => simp [sched, ih]
theorem sched_getD (m : Nat → UInt8) (t i : Nat) (h : i < t) (u : Nat) (hu : t ≤ u) : (sched m u).getD i 0 = (sched m t).getD i 0 := by
  induction u with
  | zero => omega
  | succ u ih =>
    rcases Nat.lt_or_ge u t with h1 | h1
    · have : t = u + 1 := by omega
      rw [this]
    · rw [← ih h1]
      simp only [sched]
      rw [getD_app _ _ _ _ (by rw [sched_length]; omega)]

/-- words as cells. -/
def wcells (l : List UInt32) : Array Value := (l.map fun x => Value.int .u32 (x.toNat : Int)).toArray
theorem wcells_size (l : List UInt32) : (wcells l).size = l.length := by simp [wcells]
theorem wcells_get (l : List UInt32) (i : Nat) (h : i < l.length) : (wcells l)[i]? = some (.int .u32 ((l.getD i 0).toNat : Int)) := by
  simp [wcells, h]
theorem wcells_set (l : List UInt32) (i : Nat) (x : UInt32) : (wcells l).setIfInBounds i (.int .u32 (x.toNat : Int)) = wcells (l.set i x) := by
  simp [wcells, List.map_set]
/-- the eight numbers as cells. -/
def St.cells (s : St) : Array Value := #[.int .u32 s.a.toNat, .int .u32 s.b.toNat, .int .u32 s.c.toNat, .int .u32 s.d.toNat, .int .u32 s.e.toNat, .int .u32 s.f.toNat, .int .u32 s.g.toNat, .int .u32 s.h.toNat]
def St.list (s : St) : List UInt32 := [s.a, s.b, s.c, s.d, s.e, s.f, s.g, s.h]
theorem St.cells_eq (s : St) : s.cells = wcells s.list := rfl

/-- the words of the array w behind t rounds of its loop: the first t, then zeros. -/
def wst (m : Nat → UInt8) (t : Nat) : List UInt32 := sched m t ++ List.replicate (64 - t) 0
theorem wst_length (m : Nat → UInt8) (t : Nat) (h : t ≤ 64) : (wst m t).length = 64 := by simp [wst, sched_length]; omega
theorem wst_getD (m : Nat → UInt8) (t i : Nat) (h : i < t) : (wst m t).getD i 0 = (sched m t).getD i 0 := by
  simp only [wst]; rw [getD_app _ _ _ _ (by rw [sched_length]; exact h)]
theorem wst_zero (m : Nat → UInt8) (t : Nat) (h : t < 64) : (wst m t).getD t 0 = 0 := by
  have e : 64 - t = (63 - t) + 1 := by omega
  simp [wst, sched_length, e]
theorem wst_set (m : Nat → UInt8) (t : Nat) (h : t < 64) : (wst m t).set t (nextW m (sched m t)) = wst m (t + 1) := by
  have e : 64 - t = (64 - (t + 1)) + 1 := by omega
  simp only [wst, sched]
  rw [List.set_append_right _ _ (by rw [sched_length]; omega), sched_length, Nat.sub_self, e, List.replicate_succ, List.set_cons_zero, List.append_assoc]
  rfl
theorem wst_start (m : Nat → UInt8) : wst m 0 = List.replicate 64 0 := rfl
/-- a word as its first i bytes make it, byte by byte. -/
def pw (m : Nat → UInt8) (at_ : Nat) : Nat → UInt32
  | 0 => 0
  | i + 1 => pw m at_ i <<< 8 ||| (m (at_ + i)).toUInt32
theorem shl_or (a b : UInt32) (n : Nat) (h : n < 32) : (a ||| b) <<< UInt32.ofNat n = a <<< UInt32.ofNat n ||| b <<< UInt32.ofNat n := by
  apply UInt32.toNat_inj.1
  have hm : n % 4294967296 % 32 = n := by omega
  simp only [UInt32.toNat_or, UInt32.toNat_shiftLeft, UInt32.toNat_ofNat', Nat.reducePow, hm, Nat.shiftLeft_or_distrib]
  exact Nat.or_mod_two_pow (n := 32)
theorem shl_shl (a : UInt32) (n k : Nat) (h : n + k < 32) : (a <<< UInt32.ofNat n) <<< UInt32.ofNat k = a <<< UInt32.ofNat (n + k) := by
  apply UInt32.toNat_inj.1
  have h1 : n % 4294967296 % 32 = n := by omega
  have h2 : k % 4294967296 % 32 = k := by omega
  have h3 : (n + k) % 4294967296 % 32 = n + k := by omega
  simp only [UInt32.toNat_shiftLeft, UInt32.toNat_ofNat', Nat.reducePow, h1, h2, h3, Nat.shiftLeft_eq]
  rw [Nat.mod_mul_mod, Nat.mul_assoc, ← Nat.pow_add]
theorem pw_four (m : Nat → UInt8) (at_ : Nat) : pw m at_ 4 = be (m at_) (m (at_ + 1)) (m (at_ + 2)) (m (at_ + 3)) := by
  have e8 : (8 : UInt32) = UInt32.ofNat 8 := rfl
  have e16 : (16 : UInt32) = UInt32.ofNat 16 := rfl
  have e24 : (24 : UInt32) = UInt32.ofNat 24 := rfl
  have z : (0 : UInt32) <<< (8 : UInt32) = 0 := by decide
  simp only [pw, be, Nat.add_zero, z, UInt32.zero_or]
  rw [e8, e16, e24]
  simp only [shl_or _ _ 8 (show 8 < 32 by omega), shl_shl _ 8 8 (show 8 + 8 < 32 by omega), shl_shl _ (8 + 8) 8 (show 8 + 8 + 8 < 32 by omega), Nat.reduceAdd]
  try simp only [shl_shl _ 16 8 (show 16 + 8 < 32 by omega), Nat.reduceAdd]
/-- the words while the t-th is made of bytes: i of the four are in. -/
def wpt (m : Nat → UInt8) (t i : Nat) : List UInt32 := (wst m t).set t (pw m (4 * t) i)
theorem wpt_length (m : Nat → UInt8) (t i : Nat) (h : t ≤ 64) : (wpt m t i).length = 64 := by simp [wpt, wst_length m t h]
theorem wpt_zero (m : Nat → UInt8) (t : Nat) (h : t < 64) : wpt m t 0 = wst m t := by
  have := wst_zero m t h
  simp only [wpt, pw]
  rw [← this]
  rw [List.getD_eq_getElem?_getD]
  have hl := wst_length m t (by omega)
  rw [List.getElem?_eq_getElem (by omega), Option.getD_some]
  simp
theorem wpt_get (m : Nat → UInt8) (t i : Nat) (h : t < 64) : (wpt m t i).getD t 0 = pw m (4 * t) i := by
  have hl := wst_length m t (by omega)
  simp [wpt, List.getD_eq_getElem?_getD, List.getElem?_set, hl, h]
theorem wpt_set (m : Nat → UInt8) (t i : Nat) (x : UInt32) : (wpt m t i).set t x = (wst m t).set t x := by simp [wpt]
theorem wpt_four (m : Nat → UInt8) (t : Nat) (h : t < 16) : wpt m t 4 = wst m (t + 1) := by
  rw [← wst_set m t (by omega)]
  simp only [wpt, pw_four, nextW, sched_length, if_pos h]
/-- the eight numbers while the sums are written: i of the eight are in. -/
def half (s x : St) (i : Nat) : List UInt32 := (s.plus x).list.take i ++ s.list.drop i
theorem St.list_length (s : St) : s.list.length = 8 := rfl
theorem half_zero (s x : St) : half s x 0 = s.list := by simp [half]
theorem half_eight (s x : St) : half s x 8 = (s.plus x).list := by simp [half, St.list]
theorem half_length (s x : St) (i : Nat) (h : i ≤ 8) : (half s x i).length = 8 := by simp [half, St.list_length]; omega
theorem half_get (s x : St) (i : Nat) (h : i < 8) : (half s x i).getD i 0 = s.list.getD i 0 := by
  simp only [half, List.getD_eq_getElem?_getD]
  rw [List.getElem?_append_right (by simp [St.list_length]; omega)]
  simp [St.list_length, Nat.min_eq_left (Nat.le_of_lt h)]
theorem half_set (s x : St) (i : Nat) (h : i < 8) : (half s x i).set i (s.list.getD i 0 + x.list.getD i 0) = half s x (i + 1) := by
  match i, h with
  | 0, _ | 1, _ | 2, _ | 3, _ | 4, _ | 5, _ | 6, _ | 7, _ => rfl
  | n + 8, h => omega
theorem kTab_length : kTab.length = 64 := rfl
/-- cells whose first i are written over by words. -/
def wrW (cs : Array Value) (f : Nat → UInt32) : Nat → Array Value
  | 0 => cs
  | i + 1 => (wrW cs f i).setIfInBounds i (.int .u32 ((f i).toNat : Int))
theorem wrW_get (cs : Array Value) (f : Nat → UInt32) (i j : Nat) (h : i ≤ j) : (wrW cs f i)[j]? = cs[j]? := by
  induction i with
  | zero => rfl
  | succ i ih => simp only [wrW]; rw [Array.getElem?_setIfInBounds_ne (by omega), ih (by omega)]
def St.at (s : St) (i : Nat) : UInt32 := s.list.getD i 0
theorem plus_at (s x : St) (i : Nat) (h : i < 8) : add32 (s.at i) (x.at i) = (s.plus x).at i := by
  match i, h with
  | 0, _ | 1, _ | 2, _ | 3, _ | 4, _ | 5, _ | 6, _ | 7, _ => rfl
  | n + 8, h => omega
theorem be_walk (a b c d : UInt8) : or32 (or32 (or32 (shl32 (toU32 a) 24) (shl32 (toU32 b) 16)) (shl32 (toU32 c) 8)) (toU32 d) = be a b c d := rfl
set_option maxRecDepth 10000 in
theorem kTab_cells : (#[Value.int .u32 1116352408, .int .u32 1899447441, .int .u32 3049323471, .int .u32 3921009573, .int .u32 961987163, .int .u32 1508970993, .int .u32 2453635748, .int .u32 2870763221, .int .u32 3624381080, .int .u32 310598401, .int .u32 607225278, .int .u32 1426881987, .int .u32 1925078388, .int .u32 2162078206, .int .u32 2614888103, .int .u32 3248222580, .int .u32 3835390401, .int .u32 4022224774, .int .u32 264347078, .int .u32 604807628, .int .u32 770255983, .int .u32 1249150122, .int .u32 1555081692, .int .u32 1996064986, .int .u32 2554220882, .int .u32 2821834349, .int .u32 2952996808, .int .u32 3210313671, .int .u32 3336571891, .int .u32 3584528711, .int .u32 113926993, .int .u32 338241895, .int .u32 666307205, .int .u32 773529912, .int .u32 1294757372, .int .u32 1396182291, .int .u32 1695183700, .int .u32 1986661051, .int .u32 2177026350, .int .u32 2456956037, .int .u32 2730485921, .int .u32 2820302411, .int .u32 3259730800, .int .u32 3345764771, .int .u32 3516065817, .int .u32 3600352804, .int .u32 4094571909, .int .u32 275423344, .int .u32 430227734, .int .u32 506948616, .int .u32 659060556, .int .u32 883997877, .int .u32 958139571, .int .u32 1322822218, .int .u32 1537002063, .int .u32 1747873779, .int .u32 1955562222, .int .u32 2024104815, .int .u32 2227730452, .int .u32 2361852424, .int .u32 2428436474, .int .u32 2756734187, .int .u32 3204031479, .int .u32 3329325298] : Array Value) = wcells kTab := by
  simp [wcells, kTab]
theorem kTab_size : (wcells kTab).size = 64 := by rw [wcells_size]; rfl
end Go.Proofs.YtegekaocbalndaaGreatDoor
end

section
set_option linter.unusedSimpArgs false
set_option linter.unusedVariables false
namespace Go.Proofs.YtegekaocbalndaaGreatDoor
open Go.RowKit

structure HS where
  st : St
  wait : List UInt8
  n : Nat
def HS.init : HS := ⟨St.init, List.replicate 64 0, 0⟩
def bcells (l : List UInt8) : List Value := l.map fun c => Value.int .u8 (c.toNat : Int)
def wlist (l : List UInt32) : List Value := l.map fun x => Value.int .u32 (x.toNat : Int)
def HS.cells (h : HS) : Array Value := (wlist h.st.list ++ (bcells h.wait ++ [Value.int .i64 (h.n : Int), Value.bool true])).toArray
def HS.absorb (h : HS) (c : UInt8) : HS :=
  if (h.n + 1) % 64 = 0 then ⟨compress h.st (fun j => (h.wait.set (h.n % 64) c).getD j 0), h.wait.set (h.n % 64) c, h.n + 1⟩
  else ⟨h.st, h.wait.set (h.n % 64) c, h.n + 1⟩
def HS.take_ (h : HS) (l : List UInt8) : HS := l.foldl HS.absorb h

theorem absorb_n (h : HS) (c : UInt8) : (h.absorb c).n = h.n + 1 := by unfold HS.absorb; split <;> rfl
theorem absorb_wait (h : HS) (c : UInt8) : (h.absorb c).wait.length = h.wait.length := by unfold HS.absorb; split <;> simp
theorem take_n (h : HS) (l : List UInt8) : (h.take_ l).n = h.n + l.length := by
  induction l generalizing h with
  | nil => rfl
  | cons c l ih => show ((h.absorb c).take_ l).n = _; rw [ih, absorb_n, List.length_cons]; omega
theorem take_wait (h : HS) (l : List UInt8) : (h.take_ l).wait.length = h.wait.length := by
  induction l generalizing h with
  | nil => rfl
  | cons c l ih => show ((h.absorb c).take_ l).wait.length = _; rw [ih, absorb_wait]
theorem take_app (h : HS) (l r : List UInt8) : h.take_ (l ++ r) = (h.take_ l).take_ r := by simp [HS.take_]
theorem take_succ (h : HS) (l : List UInt8) (t : Nat) (ht : t < l.length) : h.take_ (l.take (t + 1)) = (h.take_ (l.take t)).absorb (l.getD t 0) := by
  rw [List.take_succ_eq_append_getElem ht, take_app]
  simp [HS.take_, List.getD_eq_getElem?_getD, ht]

theorem hcells_size (h : HS) (hl : h.wait.length = 64) : h.cells.size = 74 := by simp [HS.cells, wlist, bcells, St.list_length, hl]
theorem hcells_st (h : HS) (i : Nat) (hi : i < 8) : h.cells[i]? = some (.int .u32 (h.st.at i).toNat) := by
  have hl := St.list_length h.st
  simp only [HS.cells, List.getElem?_toArray]
  rw [List.getElem?_append_left (by simp [wlist, hl, hi])]
  simp [wlist, St.at, List.getElem?_map, List.getD_eq_getElem?_getD, hl, hi]
theorem hcells_wait (h : HS) (hl : h.wait.length = 64) (i : Nat) (hi : i < 64) : h.cells[8 + i]? = some (.int .u8 (h.wait.getD i 0).toNat) := by
  have hs := St.list_length h.st
  simp only [HS.cells, List.getElem?_toArray]
  rw [List.getElem?_append_right (by simp [wlist, hs]), List.getElem?_append_left (by simp [wlist, bcells, hs, hl]; omega)]
  simp [wlist, bcells, hs, List.getD_eq_getElem?_getD, hl, hi]
theorem hcells_n (h : HS) (hl : h.wait.length = 64) : h.cells[72]? = some (.int .i64 (h.n : Int)) := by
  have hs := St.list_length h.st
  simp only [HS.cells, List.getElem?_toArray]
  rw [List.getElem?_append_right (by simp [wlist, hs]), List.getElem?_append_right (by simp [wlist, bcells, hs, hl])]
  simp [wlist, bcells, hs, hl]
theorem hcells_made (h : HS) (hl : h.wait.length = 64) : h.cells[73]? = some (.bool true) := by
  have hs := St.list_length h.st
  simp only [HS.cells, List.getElem?_toArray]
  rw [List.getElem?_append_right (by simp [wlist, hs]), List.getElem?_append_right (by simp [wlist, bcells, hs, hl])]
  simp [wlist, bcells, hs, hl]
/-- a byte is put into the waiting room, and the count goes on. -/
theorem hcells_put (h : HS) (hl : h.wait.length = 64) (i : Nat) (hi : i < 64) (c : UInt8) :
    (h.cells.setIfInBounds (8 + i) (.int .u8 (c.toNat : Int))).setIfInBounds 72 (.int .i64 ((h.n : Int) + 1)) = (HS.mk h.st (h.wait.set i c) (h.n + 1)).cells := by
  have wl : (wlist h.st.list).length = 8 := by simp [wlist, St.list_length]
  have bl : (bcells h.wait).length = 64 := by simp [bcells, hl]
  have bl' : (bcells (h.wait.set i c)).length = 64 := by simp [bcells, hl]
  have h1 : ∀ R : List Value, (wlist h.st.list ++ (bcells h.wait ++ R)).set (8 + i) (.int .u8 (c.toNat : Int)) = wlist h.st.list ++ (bcells (h.wait.set i c) ++ R) := by
    intro R
    rw [List.set_append_right (8 + i) _ (by omega), wl, Nat.add_sub_cancel_left, List.set_append_left i _ (by omega)]
    simp [bcells, List.map_set]
  have h2 : ∀ (x : Value) (R : List Value), (wlist h.st.list ++ (bcells (h.wait.set i c) ++ x :: R)).set 72 (.int .i64 ((h.n : Int) + 1)) = wlist h.st.list ++ (bcells (h.wait.set i c) ++ .int .i64 ((h.n : Int) + 1) :: R) := by
    intro x R
    rw [List.set_append_right 72 _ (by omega), wl, List.set_append_right (72 - 8) _ (by omega), bl']
    rfl
  simp only [HS.cells, List.setIfInBounds_toArray]
  rw [h1, h2]
  simp
theorem hcells_block (h : HS) (y : St) : wrW h.cells y.at 8 = (HS.mk y h.wait h.n).cells := by
  simp only [wrW, HS.cells, wlist, St.list, St.at, List.setIfInBounds_toArray, List.map_cons, List.map_nil, List.cons_append, List.nil_append, List.set_cons_zero, List.set_cons_succ, List.getD_cons_zero, List.getD_cons_succ]

/-- a slice of bytes in blocks below B reads as l. -/
def Bs (w : World) (B : Nat) (A : Option Addr) (l : List UInt8) : Prop :=
  ∀ j, j < l.length → ∃ b off, A = some ⟨b, off, none⟩ ∧ b < B ∧ w.cell? ⟨b, off + j, none⟩ = some (.int .u8 (l.getD j 0).toNat)
theorem Bs.keep {w w' : World} {B : Nat} {A : Option Addr} {l : List UInt8} (h : Bs w B A l) (hk : ∀ b o, b < B → w'.cell? ⟨b, o, none⟩ = w.cell? ⟨b, o, none⟩) : Bs w' B A l := fun j hj => by
  obtain ⟨b, off, e, hb, hc⟩ := h j hj
  exact ⟨b, off, e, hb, (hk b _ hb).trans hc⟩
theorem Bs.below {w w' : World} {B : Nat} {A : Option Addr} {l : List UInt8} (h : Bs w B A l) (hb : Below B w w') : Bs w' B A l := h.keep fun b o hbB => hb.cell (p := ⟨b, o, none⟩) hbB
theorem Bs.grown {w w' : World} {B : Nat} {A : Option Addr} {l : List UInt8} {row : Option Nat} (h : Bs w B A l) (hg : w.grownBy w' row) (hB : B ≤ w.heap.size) (hr : ∀ g, row = some g → B ≤ g) : Bs w' B A l :=
  h.keep fun b o hb => World.cell?_of_block (hg.block b (by omega) (fun e => by have := hr _ e.symm; omega))
theorem Bs.more {w : World} {B B' : Nat} {A : Option Addr} {l : List UInt8} (h : Bs w B A l) (hB : B ≤ B') : Bs w B' A l := fun j hj => by
  obtain ⟨b, off, e, hb, hc⟩ := h j hj
  exact ⟨b, off, e, by omega, hc⟩
theorem Bs.blk {w : World} {g : Nat} {T : TypeId} {l : List UInt8} (h : w.heap[g]? = some (.cells (bcells l).toArray T (0, 0))) : Bs w w.heap.size (some ⟨g, 0, none⟩) l := fun j hj =>
  ⟨g, 0, rfl, lt_blk h, by rw [cell_blk h]; simp [bcells, List.getD_eq_getElem?_getD, hj]⟩
theorem Bs.nil (w : World) (B : Nat) (A : Option Addr) : Bs w B A [] := fun j hj => absurd hj (by simp)

/- THE DIGEST AS PLAIN DATA -/
/-- the first i of a number's eight bytes, the highest first. -/
def bt (n k : Nat) : UInt8 := UInt8.ofNat (n / 2 ^ k)
def eightL (n i : Nat) : List UInt8 := (List.range i).map fun j => bt n (56 - 8 * j)
def eight (n : Nat) : List UInt8 := eightL n 8
theorem eightL_succ (n i : Nat) : eightL n (i + 1) = eightL n i ++ [bt n (56 - 8 * i)] := by simp [eightL, List.range_succ]
theorem eightL_length (n i : Nat) : (eightL n i).length = i := by simp [eightL]
/-- a message whose length is made 56 modulo 64. -/
def padz (l : List UInt8) : List UInt8 := l ++ List.replicate ((120 - l.length % 64) % 64) 0
def padded (l : List UInt8) (bits : Nat) : List UInt8 := padz (l ++ [128]) ++ eight bits
/-- the state behind k blocks. -/
def blk (s : St) (l : List UInt8) : Nat → St
  | 0 => s
  | k + 1 => compress (blk s l k) (fun j => l.getD (64 * k + j) 0)
/-- the bytes of the eight numbers: the first i of thirty-two. -/
def dby (s : St) (i : Nat) : UInt8 := (s.at (i / 4) >>> UInt32.ofNat (24 - 8 * (i % 4))).toUInt8
def dbytes (s : St) : List UInt8 := (List.range 32).map (dby s)
def bitsOf (n : Nat) : Nat := 8 * n % 18446744073709551616
theorem bitsOf_lt (n : Nat) : bitsOf n < 18446744073709551616 := Nat.mod_lt _ (by omega)
theorem u64_bits (n : Nat) : IntKind.u64.wrap (8 * IntKind.u64.wrap (n : Int)) = (bitsOf n : Nat) := by
  simp only [IntKind.wrap, IntKind.bits, IntKind.signed, bitsOf]; simp; omega
def sha (l : List UInt8) : List UInt8 := dbytes (blk St.init (padded l (bitsOf l.length)) ((padded l 0).length / 64))
theorem dbytes_length (s : St) : (dbytes s).length = 32 := by simp [dbytes]
theorem padz_length (l : List UInt8) : (padz l).length % 64 = 56 := by simp only [padz, List.length_append, List.length_replicate]; omega
theorem padded_length (l : List UInt8) (n : Nat) : (padded l n).length % 64 = 0 := by
  have := padz_length (l ++ [128])
  simp only [padded, List.length_append, eight, eightL_length]; omega
theorem padded_len (l : List UInt8) (n m : Nat) : (padded l n).length = (padded l m).length := by simp [padded, eight, eightL_length]
theorem padz_bound (l : List UInt8) : (padz l).length ≤ l.length + 63 := by simp only [padz, List.length_append, List.length_replicate]; omega
/-- one zero more, as long as the length is not right. -/
theorem padz_more (l : List UInt8) (k : Nat) (hk : k ≤ (120 - l.length % 64) % 64) : (l.length + k) % 64 ≠ 56 ↔ k < (120 - l.length % 64) % 64 := by omega
/-- the digest's bytes while they are written: i of thirty-two are in. -/
def dlist (s : St) (i : Nat) : List UInt8 := (List.range i).map (dby s) ++ List.replicate (32 - i) 0
theorem dlist_length (s : St) (i : Nat) (h : i ≤ 32) : (dlist s i).length = 32 := by simp [dlist]; omega
theorem dlist_last (s : St) : dlist s 32 = dbytes s := by simp [dlist, dbytes]
theorem dlist_set (s : St) (i : Nat) (h : i < 32) : (dlist s i).set i (dby s i) = dlist s (i + 1) := by
  have e : 32 - i = (32 - (i + 1)) + 1 := by omega
  simp only [dlist]
  rw [List.set_append_right _ _ (by simp), List.length_map, List.length_range, Nat.sub_self, e, List.replicate_succ, List.set_cons_zero, List.range_succ, List.map_append, List.append_assoc]
  rfl
theorem bcells_set (l : List UInt8) (i : Nat) (c : UInt8) : (bcells l).toArray.setIfInBounds i (.int .u8 (c.toNat : Int)) = (bcells (l.set i c)).toArray := by
  simp [bcells, List.map_set]
theorem dby_walk (s : St) (i : Nat) : (((s.at (i / 4)).toNat : Int) / 2 ^ (24 - 8 * (i % 4))) % 256 = ((dby s i).toNat : Int) := by
  rw [u32_shr _ _ (by omega), u32_to_u8m]; rfl
theorem St.cells_at (s : St) (i : Nat) (h : i < 8) : s.cells[i]? = some (.int .u32 (s.at i).toNat) := by
  rw [St.cells_eq, wcells_get _ _ (by rw [St.list_length]; exact h)]; rfl
/-- what a hash tells. -/
def HS.mess (h : HS) : List UInt8 := padz (h.wait.take (h.n % 64) ++ [128]) ++ eight (bitsOf h.n)
def HS.finish (h : HS) : List UInt8 := dbytes (blk h.st h.mess ((padz (h.wait.take (h.n % 64) ++ [128])).length / 64 + 1))
theorem u64_bits' (n : Nat) : IntKind.u64.wrap (IntKind.u64.wrap (n : Int) * 8) = (bitsOf n : Nat) := by
  rw [Int.mul_comm]; exact u64_bits n
theorem wrW_cells (s y : St) : wrW s.cells y.at 8 = y.cells := by
  simp [wrW, St.cells, St.at, St.list]
theorem dby_four (s : St) (i : Nat) :
    (((s.at i).toNat : Int) / 16777216) % 256 = ((dby s (4 * i)).toNat : Int) ∧ (((s.at i).toNat : Int) / 65536) % 256 = ((dby s (4 * i + 1)).toNat : Int) ∧
    (((s.at i).toNat : Int) / 256) % 256 = ((dby s (4 * i + 2)).toNat : Int) ∧ ((s.at i).toNat : Int) % 256 = ((dby s (4 * i + 3)).toNat : Int) := by
  have h0 := dby_walk s (4 * i)
  have h1 := dby_walk s (4 * i + 1)
  have h2 := dby_walk s (4 * i + 2)
  have h3 := dby_walk s (4 * i + 3)
  rw [show 4 * i / 4 = i by omega, show 24 - 8 * (4 * i % 4) = 24 by omega] at h0
  rw [show (4 * i + 1) / 4 = i by omega, show 24 - 8 * ((4 * i + 1) % 4) = 16 by omega] at h1
  rw [show (4 * i + 2) / 4 = i by omega, show 24 - 8 * ((4 * i + 2) % 4) = 8 by omega] at h2
  rw [show (4 * i + 3) / 4 = i by omega, show 24 - 8 * ((4 * i + 3) % 4) = 0 by omega] at h3
  refine ⟨h0, h1, h2, ?_⟩
  rw [← h3]; simp
theorem dlist_four (s : St) (i : Nat) (h : i < 8) : ((((dlist s (4 * i)).set (4 * i) (dby s (4 * i))).set (4 * i + 1) (dby s (4 * i + 1))).set (4 * i + 2) (dby s (4 * i + 2))).set (4 * i + 3) (dby s (4 * i + 3)) = dlist s (4 * (i + 1)) := by
  rw [dlist_set s (4 * i) (by omega), dlist_set s (4 * i + 1) (by omega), dlist_set s (4 * i + 2) (by omega), dlist_set s (4 * i + 3) (by omega)]
  rfl
end Go.Proofs.YtegekaocbalndaaGreatDoor
end

section
set_option linter.unusedSimpArgs false
set_option linter.unusedVariables false
namespace Go.Proofs.YtegekaocbalndaaGreatDoor
open Go.RowKit

/-- the slice type t has elements of type e: one cell each. -/
structure El (P : Program) (t e : TypeId) (z : Value) (bytes : Nat) : Prop where
  ht : P.underlying t = some (.slice e)
  hi : (P.info? e).map (fun i => (i.zero, i.size, i.bytes)) = some (some z, 1, bytes)
  hz : z.cells = #[z]
/-- a slice in blocks below B reads as the cells xs. -/
def Rd (w : World) (B : Nat) (A : Option Addr) (xs : List Value) : Prop :=
  ∀ j u, xs[j]? = some u → ∃ b off, A = some ⟨b, off, none⟩ ∧ b < B ∧ w.cell? ⟨b, off + j, none⟩ = some u
theorem Bs.rd {w : World} {B : Nat} {A : Option Addr} {l : List UInt8} (h : Bs w B A l) : Rd w B A (bcells l) := fun j u hu => by
  have hj : j < l.length := by
    rcases Nat.lt_or_ge j l.length with h' | h'
    · exact h'
    · simp [bcells, h'] at hu
  obtain ⟨b, off, e, hb, hc⟩ := h j hj
  refine ⟨b, off, e, hb, ?_⟩
  rw [hc]
  simp [bcells, hj] at hu
  simp [List.getD_eq_getElem?_getD, hj, ← hu]
theorem Rd.bs {w : World} {B : Nat} {A : Option Addr} {l : List UInt8} (h : Rd w B A (bcells l)) : Bs w B A l := fun j hj =>
  h j _ (by simp [bcells, List.getD_eq_getElem?_getD, hj])
theorem Rd.keep {w w' : World} {B : Nat} {A : Option Addr} {xs : List Value} (h : Rd w B A xs) (hk : ∀ b o, b < B → w'.cell? ⟨b, o, none⟩ = w.cell? ⟨b, o, none⟩) : Rd w' B A xs := fun j u hu => by
  obtain ⟨b, off, e, hb, hc⟩ := h j u hu
  exact ⟨b, off, e, hb, (hk b _ hb).trans hc⟩
theorem Rd.alloc0 {w : World} {A : Option Addr} {xs : List Value} (h : Rd w w.heap.size A xs) (o : Obj) : Rd (w.alloc o) w.heap.size A xs := h.keep fun _ _ hb => World.cell?_alloc_lt _ _ _ hb
theorem Rd.more {w : World} {B B' : Nat} {A : Option Addr} {xs : List Value} (h : Rd w B A xs) (hB : B ≤ B') : Rd w B' A xs := fun j u hu => by
  obtain ⟨b, off, e, hb, hc⟩ := h j u hu
  exact ⟨b, off, e, by omega, hc⟩
theorem Rd.below {w w' : World} {B : Nat} {A : Option Addr} {xs : List Value} (h : Rd w B A xs) (hb : Below B w w') : Rd w' B A xs := h.keep fun b o hbB => hb.cell (p := ⟨b, o, none⟩) hbB
theorem bcells_length (l : List UInt8) : (bcells l).length = l.length := by simp [bcells]
theorem bcells_app (l r : List UInt8) : bcells (l ++ r) = bcells l ++ bcells r := by simp [bcells]
theorem bcells_one (l : List UInt8) : ∀ u ∈ bcells l, u.oneCell' = true := by
  intro u hu; simp only [bcells, List.mem_map] at hu; obtain ⟨x, _, rfl⟩ := hu; rfl

theorem run_append_none {P : Program} {t e : TypeId} {z : Value} {bytes : Nat} (E : El P t e z bytes) (w : World) (base : Nat) (ty : TypeId)
    (v : Value) (n : Nat) (xs : List Value) (hown : w.ownsRow base e 1 v n xs) (c : Nat) : (Builtin.append_ #[t, t] ty #[v, .slice none 0 c]).run P w = .ok v w := by
  have hi := E.hi
  cases hq : P.info? e with
  | none => rw [hq] at hi; simp at hi
  | some i =>
    rcases hown.2 with ⟨rfl, rfl⟩ | ⟨g, cap, cur, rfl, _, _, hnc, _⟩
    · simp [Builtin.append_, run_underlying E.ht, sizeOf, typeInfo, hq, Builtin.lenOf, Builtin.firstCells]
    · simp [Builtin.append_, run_underlying E.ht, sizeOf, typeInfo, hq, Builtin.lenOf, Builtin.firstCells, hnc, storeCells]

theorem run_append_src {P : Program} {t e : TypeId} {z : Value} {bytes : Nat} (E : El P t e z bytes) (w : World) (base : Nat) (ty : TypeId)
    (v : Value) (n : Nat) (xs : List Value) (hown : w.ownsRow base e 1 v n xs) (B : Nat) (A : Option Addr) (news : List Value) (m c : Nat) (hm : news.length = m) (hr : Rd w B A news)
    (hA : A = none → m = 0) (h1 : ∀ u ∈ news, u.oneCell' = true) (h63 : n + m ≤ 1000000000000) (hbytes : bytes ≤ 100) (hbase : base ≤ w.heap.size) :
    ∃ v' w', (Builtin.append_ #[t, t] ty #[v, .slice A m c]).run P w = .ok v' w' ∧ w'.ownsRow base e 1 v' (n + m) (xs ++ news) ∧ w.grownBy w' v.ownBlock ∧
      (v'.ownBlock = v.ownBlock ∨ v'.ownBlock = some w.heap.size) := by
  rcases A with _ | ad
  · obtain rfl := hA rfl
    obtain rfl := List.eq_nil_of_length_eq_zero hm
    exact ⟨v, w, run_append_none E w base ty v n xs hown c, by simpa using hown, World.grownBy.refl w _, .inl rfl⟩
  · obtain ⟨i, hi, hz0, hz1, hz2⟩ := info_parts E.hi
    have hb : (n + m) * bytes ≤ 140737488355328 := Nat.le_trans (Nat.mul_le_mul h63 hbytes) (by omega)
    obtain ⟨v', w', hrun, h2, h3, _, h5⟩ := run_append_own_at (P := P) w base t ty e i z 1 bytes E.ht hi hz0 hz1 hz2 (by rw [E.hz]; rfl) (by omega) v n xs hown ad m c news (by omega) (fun j u hu => by
      obtain ⟨b, off, e, _, hc⟩ := hr j u hu
      injection e with e
      subst e
      have hadd : (⟨b, off, none⟩ : Addr).add j = ⟨b, off + j, none⟩ := by unfold Addr.add; split <;> simp_all
      rw [hadd]; exact hc) h1 (by simp only [maxLen]; omega) hb hbase
    exact ⟨v', w', hrun, h2, h3, h5⟩

/-- THE LAW AT THE OPERATION. 'Below B0 w0 w' goes on; the row of v, or a new one, is all that has turned. -/
theorem wp_append_src {P : Program} {t e : TypeId} {z : Value} {bytes : Nat} (E : El P t e z bytes) {o : Oper} {a : Act} {K : Act → World → Prop} {Q : Exit → Act → World → Prop} (w : World) (s x : Operand)
    (ho : o.op = .call { callee := .builtin .append, args := #[s, x], argTypes := #[t, t] }) (base : Nat)
    (v : Value) (n : Nat) (xs : List Value) (hs : a.eval s = v) (hown : w.ownsRow base e 1 v n xs) (B : Nat) (A : Option Addr) (news : List Value) (m c : Nat) (hx : a.eval x = .slice A m c) (hm : news.length = m) (hr : Rd w B A news)
    (hA : A = none → m = 0) (h1 : ∀ u ∈ news, u.oneCell' = true) (h63 : n + m ≤ 1000000000000) (hbytes : bytes ≤ 100) (w0 : World) (hB : base ≤ w0.heap.size) (hbel : Below base w0 w)
    (h : ∀ v' w', w'.ownsRow base e 1 v' (n + m) (xs ++ news) → Below base w0 w' → w.grownBy w' v.ownBlock → (v'.ownBlock = v.ownBlock ∨ v'.ownBlock = some w.heap.size) → K (a.put o.dst v') w') : o.wp P a w K Q := by
  obtain ⟨v', w', hrun, h2, h3, h4⟩ := run_append_src E w base o.type v n xs hown B A news m c hm hr hA h1 h63 hbytes (Nat.le_trans hB hbel.size)
  unfold Oper.wp execOp
  simp only [ho, resolve, invoke, builtin, Sem.run_bind, Sem.run_pure, Result.andThen_ok, List.map_toArray, List.map_cons, List.map_nil, hs, hx, hrun]
  exact h v' w' h2 (hbel.grown h3 (Nat.le_trans hB hbel.size) (fun k hk => (hown.lt k hk).1)) h3 h4

theorem wpList_append_src {P : Program} {t e : TypeId} {z : Value} {bytes : Nat} (E : El P t e z bytes) {ops : Array Oper} {rest : List Oper} {o : Oper} {a : Act} {Q : Exit → Act → World → Prop} {w : World} (hgd : o.guard = none) (s x : Operand)
    (ho : o.op = .call { callee := .builtin .append, args := #[s, x], argTypes := #[t, t] }) (base : Nat)
    (v : Value) (n : Nat) (xs : List Value) (hs : a.eval s = v) (hown : w.ownsRow base e 1 v n xs) (B : Nat) (A : Option Addr) (news : List Value) (m c : Nat) (hx : a.eval x = .slice A m c) (hm : news.length = m) (hr : Rd w B A news)
    (hA : A = none → m = 0) (h1 : ∀ u ∈ news, u.oneCell' = true) (h63 : n + m ≤ 1000000000000) (hbytes : bytes ≤ 100) (w0 : World) (hB : base ≤ w0.heap.size) (hbel : Below base w0 w)
    (h : ∀ v' w', w'.ownsRow base e 1 v' (n + m) (xs ++ news) → Below base w0 w' → w.grownBy w' v.ownBlock → (v'.ownBlock = v.ownBlock ∨ v'.ownBlock = some w.heap.size) → wpList P ops Q rest (a.put o.dst v') w') : wpList P ops Q (o :: rest) a w :=
  wpList_plain hgd fun _ hK => wp_append_src E w s x ho base v n xs hs hown B A news m c hx hm hr hA h1 h63 hbytes w0 hB hbel fun v' w' h2 h3 h4 h5 => hK _ _ (h v' w' h2 h3 h4 h5)

theorem step_append_src {P : Program} {t e : TypeId} {z : Value} {bytes : Nat} (E : El P t e z bytes) {ops : Array Oper} {o : Oper} {a : Act} {K : Act → World → Prop} {Q : Exit → Act → World → Prop} {E' : Prop} (w : World) (hgd : o.guard = none) (s x : Operand)
    (ho : o.op = .call { callee := .builtin .append, args := #[s, x], argTypes := #[t, t] }) (base : Nat)
    (v : Value) (n : Nat) (xs : List Value) (hs : a.eval s = v) (hown : w.ownsRow base e 1 v n xs) (B : Nat) (A : Option Addr) (news : List Value) (m c : Nat) (hx : a.eval x = .slice A m c) (hm : news.length = m) (hr : Rd w B A news)
    (hA : A = none → m = 0) (h1 : ∀ u ∈ news, u.oneCell' = true) (h63 : n + m ≤ 1000000000000) (hbytes : bytes ≤ 100) (w0 : World) (hB : base ≤ w0.heap.size) (hbel : Below base w0 w)
    (h : ∀ v' w', w'.ownsRow base e 1 v' (n + m) (xs ++ news) → Below base w0 w' → w.grownBy w' v.ownBlock → (v'.ownBlock = v.ownBlock ∨ v'.ownBlock = some w.heap.size) → K (a.put o.dst v') w') :
    if Region.wanted o (yielded ops a.tmps) = true then Oper.wp P o a w K Q else E' := by
  have hw : Region.wanted o (yielded ops a.tmps) = true := by simp [Region.wanted, hgd]
  rw [if_pos hw]
  exact wp_append_src E w s x ho base v n xs hs hown B A news m c hx hm hr hA h1 h63 hbytes w0 hB hbel h
/-- one element, which lies in the newest block. -/
theorem wpList_append_one {P : Program} {t e : TypeId} {z : Value} {bytes : Nat} (E : El P t e z bytes) {ops : Array Oper} {rest : List Oper} {o : Oper} {a : Act} {Q : Exit → Act → World → Prop} {w : World} (hgd : o.guard = none) (s x : Operand)
    (ho : o.op = .call { callee := .builtin .append, args := #[s, x], argTypes := #[t, t] }) (base : Nat) (u : Value) (k : Nat) (hu : u.oneCell' = true)
    (v : Value) (n : Nat) (xs : List Value) (hs : a.eval s = v) (hown : w.ownsRow base e 1 v n xs) (hx : a.eval x = .slice (some ⟨w.heap.size, 0, none⟩) 1 1)
    (h63 : n ≤ 999999999999) (hbytes : bytes ≤ 100) (w0 : World) (hB : base ≤ w0.heap.size) (hbel : Below base w0 w)
    (h : ∀ v' w', w'.ownsRow base e 1 v' (n + 1) (xs ++ [u]) → Below base w0 w' → w.grownBy w' v.ownBlock → (v'.ownBlock = v.ownBlock ∨ v'.ownBlock = some (w.heap.size + 1)) → wpList P ops Q rest (a.put o.dst v') w') :
    wpList P ops Q (o :: rest) a ((w.alloc (.cells #[u] e)).drewN k) := by
  refine wpList_append_src E hgd s x ho base v n xs hs (hown.alloc _) (w.heap.size + 1) (some ⟨w.heap.size, 0, none⟩) [u] 1 1 hx rfl ?_ (by intro h; cases h) (by intro y hy; simp at hy; subst hy; exact hu) (by omega) hbytes w0 hB
    (below_drewN (hbel.alloc (Nat.le_trans hB hbel.size) _) k) ?_
  · intro j y hy
    match j, hy with
    | 0, hy =>
      simp at hy; subst hy
      exact ⟨_, 0, rfl, by omega, cell_blk (T := e) (heap_alloc_new _ _) 0⟩
  · intro v' w' h2 h3 h4 h5
    refine h v' w' h2 h3 ⟨h4.os, h4.tape, h4.output, Nat.le_trans (by simp) h4.size, fun i hi hne => (h4.block i (by simp; omega) hne).trans (Below.heap_alloc w _ i hi)⟩ (by simpa using h5)
/-- without a draw. -/
theorem wpList_append_one0 {P : Program} {t e : TypeId} {z : Value} {bytes : Nat} (E : El P t e z bytes) {ops : Array Oper} {rest : List Oper} {o : Oper} {a : Act} {Q : Exit → Act → World → Prop} {w : World} (hgd : o.guard = none) (s x : Operand)
    (ho : o.op = .call { callee := .builtin .append, args := #[s, x], argTypes := #[t, t] }) (base : Nat) (u : Value) (hu : u.oneCell' = true)
    (v : Value) (n : Nat) (xs : List Value) (hs : a.eval s = v) (hown : w.ownsRow base e 1 v n xs) (hx : a.eval x = .slice (some ⟨w.heap.size, 0, none⟩) 1 1)
    (h63 : n ≤ 999999999999) (hbytes : bytes ≤ 100) (w0 : World) (hB : base ≤ w0.heap.size) (hbel : Below base w0 w)
    (h : ∀ v' w', w'.ownsRow base e 1 v' (n + 1) (xs ++ [u]) → Below base w0 w' → w.grownBy w' v.ownBlock → (v'.ownBlock = v.ownBlock ∨ v'.ownBlock = some (w.heap.size + 1)) → wpList P ops Q rest (a.put o.dst v') w') :
    wpList P ops Q (o :: rest) a (w.alloc (.cells #[u] e)) :=
  wpList_append_one E hgd s x ho base u 0 hu v n xs hs hown hx h63 hbytes w0 hB hbel h

theorem own_below {w w' : World} {base : Nat} {e : TypeId} {v : Value} {n : Nat} {xs : List Value} (h : w.ownsRow base e 1 v n xs) (hb : Below w.heap.size w w') : w'.ownsRow base e 1 v n xs :=
  h.kept (grown_below hb none) (by cases hv : v.ownBlock with
    | none => exact .inl rfl
    | some k => exact .inr (by simp))
theorem wcells_one (l : List UInt32) : (wcells l).all (·.oneCell') = true := by
  rw [Array.all_eq_true_iff_forall_mem]; intro x hx; simp [wcells] at hx; obtain ⟨y, _, rfl⟩ := hx; rfl
theorem cells_size (s : St) : s.cells.size = 8 := rfl
theorem cells_one (s : St) : s.cells.all (·.oneCell') = true := wcells_one s.list
theorem keepS {w2 W : World} {B g i : Nat} {v : Value} (h : w2.cell? ⟨g, i, none⟩ = some v) (hg : g < B) (hb : Below B w2 W) : W.cell? ⟨g, i, none⟩ = some v ∧ Below B w2 W := ⟨(hb.cell (p := ⟨g, i, none⟩) hg).trans h, hb⟩
theorem rd_new (w : World) (u : Value) (e : TypeId) : Rd (w.alloc (.cells #[u] e)) (w.heap.size + 1) (some ⟨w.heap.size, 0, none⟩) [u] := fun j y hy => by
  match j, hy with
  | 0, hy =>
    simp at hy; subst hy
    exact ⟨_, 0, rfl, by omega, cell_blk (T := e) (heap_alloc_new _ _) 0⟩
theorem Rd.grown {w w' : World} {B : Nat} {A : Option Addr} {xs : List Value} (h : Rd w B A xs) (hg : w.grownBy w' none) (hB : B ≤ w.heap.size) : Rd w' B A xs :=
  h.keep fun b o hb => World.cell?_of_block (hg.block b (by omega) (by simp))
theorem Rd.drew {w : World} {B : Nat} {A : Option Addr} {xs : List Value} (h : Rd w B A xs) : Rd w.drew B A xs := h
/-- a digest as a value. -/
def dg (l : List UInt8) : Value := .agg (bcells l).toArray
/-- a slice's length. -/
def lenV : Value → Nat
  | .slice _ n _ => n
  | _ => 0
/-- what an owned row reads as. -/
theorem own_rd {w : World} {base : Nat} {e : TypeId} {v : Value} {n : Nat} {xs : List Value} (h : w.ownsRow base e 1 v n xs) :
    ∃ A cap, v = .slice A n cap ∧ Rd w w.heap.size A xs ∧ (A = none → n = 0) ∧ n ≤ cap := by
  rcases h.2 with ⟨rfl, rfl⟩ | ⟨g, cap, cur, rfl, _, hg, hnc, _⟩
  · refine ⟨none, 0, rfl, ?_, fun _ => rfl, Nat.le_refl _⟩
    have := h.1
    have : xs = [] := List.eq_nil_of_length_eq_zero (by omega)
    subst this
    intro j u hu; simp at hu
  · refine ⟨_, cap, rfl, ?_, (by intro h; cases h), hnc⟩
    intro j u hu
    refine ⟨g, 0, rfl, lt_blk hg, ?_⟩
    have hj : j < n * 1 := by
      have := h.1
      rcases Nat.lt_or_ge j xs.length with h' | h'
      · omega
      · rw [List.getElem?_eq_none h'] at hu; cases hu
    rw [Nat.zero_add, h.cellAt j hj]; exact hu
theorem own_length {w : World} {base : Nat} {e : TypeId} {v : Value} {n : Nat} {xs : List Value} (h : w.ownsRow base e 1 v n xs) : xs.length = n := by have := h.1; omega
end Go.Proofs.YtegekaocbalndaaGreatDoor
end

section
set_option linter.unusedSimpArgs false
set_option linter.unusedVariables false
namespace Go.Proofs.YtegekaocbalndaaGreatDoor
open Go.RowKit

def str (l : List UInt8) : ByteArray := ⟨l.toArray⟩
theorem str_size (l : List UInt8) : (str l).size = l.length := rfl
theorem str_inj {a b : List UInt8} (h : str a = str b) : a = b := by
  unfold str at h; injection h with h; simpa using h
theorem run_conv_bytes {P : Program} (w : World) (src e dst : TypeId) (hs : P.underlying src = some (.slice e)) (he : P.underlying e = some (.int .u8)) (hd : P.underlying dst = some .string)
    (B : Nat) (A : Option Addr) (l : List UInt8) (n cap : Nat) (hn : n = l.length) (h : Bs w B A l) (hA : A = none → l = []) : (convert src dst (Value.slice A n cap)).run P w = Result.ok (.string (str l)) w := by
  subst hn
  have key : strOfNums (l.map fun c => (c.toNat : Int)) = str l := by
    apply congrArg ByteArray.mk
    rw [List.map_map]
    congr 1
    conv => rhs; rw [← List.map_id l]
    apply List.map_congr_left
    intro c _
    simp
  rcases A with _ | ad
  · obtain rfl := hA rfl
    exact run_convert_bytes_nil w src e hs he 0 cap dst hd
  · rcases Nat.eq_zero_or_pos l.length with h0 | h0
    · obtain rfl := List.eq_nil_of_length_eq_zero h0
      rw [run_convert_bytes_string w src dst e _ _ _ hs he hd]
      exact run_bytesToString w ad 0 cap [] (by simp [loadCells, loadCellsFrom])
    · obtain ⟨b, off, e1, _, _⟩ := h 0 h0
      injection e1 with e1
      subst e1
      have := run_convert_bytes_arg w src e hs he b off l.length cap (l.map fun c => (c.toNat : Int)) (by simp) (fun i hi => by
        obtain ⟨b', off', e2, _, hc⟩ := h i hi
        injection e2 with e2
        injection e2 with e3 e4
        subst e3 e4
        rw [hc]
        simp [List.getD_eq_getElem?_getD, hi]) dst hd
      rw [this, key]

/-- 'make([]T, n)' of elements of one cell. -/
theorem run_make_el {P : Program} {t e : TypeId} {z : Value} {bytes : Nat} (E : El P t e z bytes) (n : Nat) (i : Int) (hi' : i = n) (hn : n ≤ 1000000000000) (hb : bytes ≤ 100) (w : World) :
    (Instr.makeSlice t (.int .i64 i) (.int .i64 i)).run P w = .ok (.slice (some ⟨w.heap.size, 0, none⟩) n n) (w.alloc (.cells (List.replicate n z).toArray e)) := by
  subst hi'
  obtain ⟨ti, hi, hz0, hz1, hz2⟩ := info_parts E.hi
  have h := run_make (P := P) w t e ti z E.ht hi hz0 .i64 .i64 n n (by omega) (by omega) (by
    rw [hz2]
    have : bytes * n ≤ 100 * 1000000000000 := Nat.mul_le_mul hb hn
    have h2 : ((bytes * n : Nat) : Int) ≤ 100000000000000 := by omega
    rw [Int.natCast_mul] at h2; omega) (by omega)
  rw [h, hz1, Int.toNat_natCast, E.hz]
  have : madeCells #[z] (n * 1) = (List.replicate n z).toArray := by
    apply Array.ext
    · simp [madeCells]
    · intro j h1 h2
      simp [madeCells, Nat.mod_one]
  rw [this]

theorem El.size1 {P : Program} {t e : TypeId} {z : Value} {bytes : Nat} (E : El P t e z bytes) : (P.info? e).map (·.size) = some 1 := by
  have hi := E.hi
  cases hq : P.info? e with
  | none => rw [hq] at hi; simp at hi
  | some i => rw [hq] at hi; simp at hi; simp [hi.2.1]

/-- 'copy(full, src)' into a row that was made a step ago. -/
theorem run_copy_fresh {P : Program} {t e : TypeId} {z : Value} {bytes : Nat} (E : El P t e z bytes) (ty : TypeId) (w : World) (A : Option Addr) (xs : List Value) (n cap m : Nat) (hn : xs.length = n) (hm : n ≤ m)
    (hr : Rd w w.heap.size A xs) (h1 : ∀ u ∈ xs, u.oneCell' = true) :
    ∃ w1, (Builtin.copy_ #[t, t] ty #[.slice (some ⟨w.heap.size, 0, none⟩) m m, .slice A n cap]).run P (w.alloc (.cells (Array.replicate m z) e)) = .ok (.int .i64 n) w1 ∧
      w1.heap[w.heap.size]? = some (.cells (xs ++ List.replicate (m - n) z).toArray e (0, 0)) ∧ Below w.heap.size w w1 := by
  rcases Nat.eq_zero_or_pos n with h0 | h0
  · subst h0
    obtain rfl := List.eq_nil_of_length_eq_zero hn
    refine ⟨_, run_copy_none _ t t ty e _ A m m 0 cap E.ht E.size1 (by simp), ?_, (Below.refl _ _).alloc (Nat.le_refl _) _⟩
    rw [heap_alloc_new]
    simp
  · obtain ⟨b, off, rfl, hb, _⟩ := hr 0 (xs[0]) (by simp)
    refine ⟨_, (run_copy_row P _ t t ty e w.heap.size 0 m m ⟨b, off, none⟩ n cap _ e xs E.ht E.size1 (heap_alloc_new _ _) (by rw [hn]; exact (Nat.min_eq_left hm).symm) (fun j v hv => ?_) (by simp; omega) h1).trans (by rw [hn]; rfl), ?_,
      below_setRow ((Below.refl _ _).alloc (Nat.le_refl _) _) (Nat.le_refl _) _⟩
    · obtain ⟨b', off', e2, hb', hc⟩ := hr j v hv
      injection e2 with e2
      injection e2 with e3 e4
      subst e3 e4
      have hadd : (⟨b, off, none⟩ : Addr).add j = ⟨b, off + j, none⟩ := by unfold Addr.add; split <;> simp_all
      rw [hadd, World.cell?_alloc_lt _ _ _ hb]; exact hc
    · rw [setRow_heap _ _ _ _ _ _ (heap_alloc_new _ _)]
      congr 2
      simp [hn]
/-- 'a[i]' of an array value whose elements are numbers. -/
theorem run_index_cell {P : Program} {t e : TypeId} {n : Nat} {k : IntKind} (ht : P.underlying t = some (.array n e)) (he : P.underlying e = some (.int k)) (hs : (P.info? e).map (·.size) = some 1) (cs : Array Value) (i : Nat) (hi : i < n) (v : Value) (hv : cs[i]? = some v) (w : World) :
    (Instr.index t (.agg cs) (.int .i64 i)).run P w = .ok v w := by
  have h1 : (0 : Int) ≤ (i : Int) ∧ (i : Int) < (n : Int) := by omega
  cases hq : P.info? e with
  | none => simp [hq] at hs
  | some j =>
    have hj : j.size = 1 := by simpa [hq] using hs
    simp [Instr.index, run_underlying ht, asIntOf, h1, part, isAgg, run_underlying he, sizeOf, typeInfo, hq, hj, hv, go_sem]
    intro h; omega
end Go.Proofs.YtegekaocbalndaaGreatDoor
end
