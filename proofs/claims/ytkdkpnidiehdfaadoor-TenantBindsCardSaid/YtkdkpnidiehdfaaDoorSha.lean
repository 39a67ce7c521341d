/-
  SHA-256 as plain functions on UInt32, UInt8 and lists. No program.
-/
import Derived.Test.YtkdkpnidiehdfaaDoorNum
set_option linter.unusedSimpArgs false
set_option linter.unusedVariables false
namespace Go.Proofs.YtkdkpnidiehdfaaDoor
open Go.RowKit

theorem getD_app {α : Type} (l r : List α) (i : Nat) (d : α) (h : i < l.length) : (l ++ r).getD i d = l.getD i d := by
  simp [List.getD_eq_getElem?_getD, List.getElem?_append_left h]

/-- the eight numbers. -/
structure St where
  a : UInt32
  b : UInt32
  c : UInt32
  d : UInt32
  e : UInt32
  f : UInt32
  g : UInt32
  h : UInt32

def St.init : St := ⟨1779033703, 3144134277, 1013904242, 2773480762, 1359893119, 2600822924, 528734635, 1541459225⟩

def kTab : List UInt32 := [1116352408, 1899447441, 3049323471, 3921009573, 961987163, 1508970993, 2453635748, 2870763221, 3624381080, 310598401, 607225278, 1426881987, 1925078388, 2162078206, 2614888103, 3248222580, 3835390401, 4022224774, 264347078, 604807628, 770255983, 1249150122, 1555081692, 1996064986, 2554220882, 2821834349, 2952996808, 3210313671, 3336571891, 3584528711, 113926993, 338241895, 666307205, 773529912, 1294757372, 1396182291, 1695183700, 1986661051, 2177026350, 2456956037, 2730485921, 2820302411, 3259730800, 3345764771, 3516065817, 3600352804, 4094571909, 275423344, 430227734, 506948616, 659060556, 883997877, 958139571, 1322822218, 1537002063, 1747873779, 1955562222, 2024104815, 2227730452, 2361852424, 2428436474, 2756734187, 3204031479, 3329325298]

def s0 (x : UInt32) : UInt32 := rotr x 7 ^^^ rotr x 18 ^^^ x >>> 3
def s1 (x : UInt32) : UInt32 := rotr x 17 ^^^ rotr x 19 ^^^ x >>> 10
def S0 (x : UInt32) : UInt32 := rotr x 2 ^^^ rotr x 13 ^^^ rotr x 22
def S1 (x : UInt32) : UInt32 := rotr x 6 ^^^ rotr x 11 ^^^ rotr x 25

/-- four bytes as a number, the highest first. -/
def be (a b c d : UInt8) : UInt32 := a.toUInt32 <<< 24 ||| b.toUInt32 <<< 16 ||| c.toUInt32 <<< 8 ||| d.toUInt32

/-- the word behind those that are there. -/
def nextW (m : Nat → UInt8) (l : List UInt32) : UInt32 :=
  if l.length < 16 then be (m (4 * l.length)) (m (4 * l.length + 1)) (m (4 * l.length + 2)) (m (4 * l.length + 3))
  else s1 (l.getD (l.length - 2) 0) + l.getD (l.length - 7) 0 + s0 (l.getD (l.length - 15) 0) + l.getD (l.length - 16) 0
/-- the first t words. -/
def sched (m : Nat → UInt8) : Nat → List UInt32
  | 0 => []
  | t + 1 => sched m t ++ [nextW m (sched m t)]

def rndP (s : St) (k w : UInt32) : UInt32 := s.h + S1 s.e + (s.e &&& s.f ^^^ (~~~ s.e) &&& s.g) + k + w
def rndQ (s : St) : UInt32 := S0 s.a + (s.a &&& s.b ^^^ s.a &&& s.c ^^^ s.b &&& s.c)
def rnd (s : St) (k w : UInt32) : St := ⟨rndP s k w + rndQ s, s.a, s.b, s.c, s.d + rndP s k w, s.e, s.f, s.g⟩
/-- behind t rounds. -/
def rounds_ (s : St) (ws : List UInt32) : Nat → St
  | 0 => s
  | t + 1 => rnd (rounds_ s ws t) (kTab.getD t 0) (ws.getD t 0)
def St.plus (x y : St) : St := ⟨x.a + y.a, x.b + y.b, x.c + y.c, x.d + y.d, x.e + y.e, x.f + y.f, x.g + y.g, x.h + y.h⟩
/-- the eight numbers behind a block. -/
def compress (s : St) (m : Nat → UInt8) : St := s.plus (rounds_ s (sched m 64) 64)

theorem sched_length (m : Nat → UInt8) (t : Nat) : (sched m t).length = t := by
  induction t with
  | zero => rfl
  | succ t ih => simp [sched, ih]
theorem sched_getD (m : Nat → UInt8) (t i : Nat) (h : i < t) (u : Nat) (hu : t ≤ u) : (sched m u).getD i 0 = (sched m t).getD i 0 := by
  induction u with
  | zero => omega
  | succ u ih =>
    rcases Nat.lt_or_ge u t with h1 | h1
    · have : t = u + 1 := by omega
      rw [this]
    · rw [← ih h1]
      simp only [sched]
      rw [getD_app _ _ _ _ (by rw [sched_length]; omega)]

/-- words as cells. -/
def wcells (l : List UInt32) : Array Value := (l.map fun x => Value.int .u32 (x.toNat : Int)).toArray
theorem wcells_size (l : List UInt32) : (wcells l).size = l.length := by simp [wcells]
theorem wcells_get (l : List UInt32) (i : Nat) (h : i < l.length) : (wcells l)[i]? = some (.int .u32 ((l.getD i 0).toNat : Int)) := by
  simp [wcells, h]
theorem wcells_set (l : List UInt32) (i : Nat) (x : UInt32) : (wcells l).setIfInBounds i (.int .u32 (x.toNat : Int)) = wcells (l.set i x) := by
  simp [wcells, List.map_set]
/-- the eight numbers as cells. -/
def St.cells (s : St) : Array Value := #[.int .u32 s.a.toNat, .int .u32 s.b.toNat, .int .u32 s.c.toNat, .int .u32 s.d.toNat, .int .u32 s.e.toNat, .int .u32 s.f.toNat, .int .u32 s.g.toNat, .int .u32 s.h.toNat]
def St.list (s : St) : List UInt32 := [s.a, s.b, s.c, s.d, s.e, s.f, s.g, s.h]
theorem St.cells_eq (s : St) : s.cells = wcells s.list := rfl

/-- the words of the array w behind t rounds of its loop: the first t, then zeros. -/
def wst (m : Nat → UInt8) (t : Nat) : List UInt32 := sched m t ++ List.replicate (64 - t) 0
theorem wst_length (m : Nat → UInt8) (t : Nat) (h : t ≤ 64) : (wst m t).length = 64 := by simp [wst, sched_length]; omega
theorem wst_getD (m : Nat → UInt8) (t i : Nat) (h : i < t) : (wst m t).getD i 0 = (sched m t).getD i 0 := by
  simp only [wst]; rw [getD_app _ _ _ _ (by rw [sched_length]; exact h)]
theorem wst_zero (m : Nat → UInt8) (t : Nat) (h : t < 64) : (wst m t).getD t 0 = 0 := by
  have e : 64 - t = (63 - t) + 1 := by omega
  simp [wst, sched_length, e]
theorem wst_set (m : Nat → UInt8) (t : Nat) (h : t < 64) : (wst m t).set t (nextW m (sched m t)) = wst m (t + 1) := by
  have e : 64 - t = (64 - (t + 1)) + 1 := by omega
  simp only [wst, sched]
  rw [List.set_append_right _ _ (by rw [sched_length]; omega), sched_length, Nat.sub_self, e, List.replicate_succ, List.set_cons_zero, List.append_assoc]
  rfl
theorem wst_start (m : Nat → UInt8) : wst m 0 = List.replicate 64 0 := rfl
/-- a word as its first i bytes make it, byte by byte. -/
def pw (m : Nat → UInt8) (at_ : Nat) : Nat → UInt32
  | 0 => 0
  | i + 1 => pw m at_ i <<< 8 ||| (m (at_ + i)).toUInt32
theorem shl_or (a b : UInt32) (n : Nat) (h : n < 32) : (a ||| b) <<< UInt32.ofNat n = a <<< UInt32.ofNat n ||| b <<< UInt32.ofNat n := by
  apply UInt32.toNat_inj.1
  have hm : n % 4294967296 % 32 = n := by omega
  simp only [UInt32.toNat_or, UInt32.toNat_shiftLeft, UInt32.toNat_ofNat', Nat.reducePow, hm, Nat.shiftLeft_or_distrib]
  exact Nat.or_mod_two_pow (n := 32)
theorem shl_shl (a : UInt32) (n k : Nat) (h : n + k < 32) : (a <<< UInt32.ofNat n) <<< UInt32.ofNat k = a <<< UInt32.ofNat (n + k) := by
  apply UInt32.toNat_inj.1
  have h1 : n % 4294967296 % 32 = n := by omega
  have h2 : k % 4294967296 % 32 = k := by omega
  have h3 : (n + k) % 4294967296 % 32 = n + k := by omega
  simp only [UInt32.toNat_shiftLeft, UInt32.toNat_ofNat', Nat.reducePow, h1, h2, h3, Nat.shiftLeft_eq]
  rw [Nat.mod_mul_mod, Nat.mul_assoc, ← Nat.pow_add]
theorem pw_four (m : Nat → UInt8) (at_ : Nat) : pw m at_ 4 = be (m at_) (m (at_ + 1)) (m (at_ + 2)) (m (at_ + 3)) := by
  have e8 : (8 : UInt32) = UInt32.ofNat 8 := rfl
  have e16 : (16 : UInt32) = UInt32.ofNat 16 := rfl
  have e24 : (24 : UInt32) = UInt32.ofNat 24 := rfl
  have z : (0 : UInt32) <<< (8 : UInt32) = 0 := by decide
  simp only [pw, be, Nat.add_zero, z, UInt32.zero_or]
  rw [e8, e16, e24]
  simp only [shl_or _ _ 8 (show 8 < 32 by omega), shl_shl _ 8 8 (show 8 + 8 < 32 by omega), shl_shl _ (8 + 8) 8 (show 8 + 8 + 8 < 32 by omega), Nat.reduceAdd]
  try simp only [shl_shl _ 16 8 (show 16 + 8 < 32 by omega), Nat.reduceAdd]
/-- the words while the t-th is made of bytes: i of the four are in. -/
def wpt (m : Nat → UInt8) (t i : Nat) : List UInt32 := (wst m t).set t (pw m (4 * t) i)
theorem wpt_length (m : Nat → UInt8) (t i : Nat) (h : t ≤ 64) : (wpt m t i).length = 64 := by simp [wpt, wst_length m t h]
theorem wpt_zero (m : Nat → UInt8) (t : Nat) (h : t < 64) : wpt m t 0 = wst m t := by
  have := wst_zero m t h
  simp only [wpt, pw]
  rw [← this]
  rw [List.getD_eq_getElem?_getD]
  have hl := wst_length m t (by omega)
  rw [List.getElem?_eq_getElem (by omega), Option.getD_some]
  simp
theorem wpt_get (m : Nat → UInt8) (t i : Nat) (h : t < 64) : (wpt m t i).getD t 0 = pw m (4 * t) i := by
  have hl := wst_length m t (by omega)
  simp [wpt, List.getD_eq_getElem?_getD, List.getElem?_set, hl, h]
theorem wpt_set (m : Nat → UInt8) (t i : Nat) (x : UInt32) : (wpt m t i).set t x = (wst m t).set t x := by simp [wpt]
theorem wpt_four (m : Nat → UInt8) (t : Nat) (h : t < 16) : wpt m t 4 = wst m (t + 1) := by
  rw [← wst_set m t (by omega)]
  simp only [wpt, pw_four, nextW, sched_length, if_pos h]
/-- the eight numbers while the sums are written: i of the eight are in. -/
def half (s x : St) (i : Nat) : List UInt32 := (s.plus x).list.take i ++ s.list.drop i
theorem St.list_length (s : St) : s.list.length = 8 := rfl
theorem half_zero (s x : St) : half s x 0 = s.list := by simp [half]
theorem half_eight (s x : St) : half s x 8 = (s.plus x).list := by simp [half, St.list]
theorem half_length (s x : St) (i : Nat) (h : i ≤ 8) : (half s x i).length = 8 := by simp [half, St.list_length]; omega
theorem half_get (s x : St) (i : Nat) (h : i < 8) : (half s x i).getD i 0 = s.list.getD i 0 := by
  simp only [half, List.getD_eq_getElem?_getD]
  rw [List.getElem?_append_right (by simp [St.list_length]; omega)]
  simp [St.list_length, Nat.min_eq_left (Nat.le_of_lt h)]
theorem half_set (s x : St) (i : Nat) (h : i < 8) : (half s x i).set i (s.list.getD i 0 + x.list.getD i 0) = half s x (i + 1) := by
  match i, h with
  | 0, _ | 1, _ | 2, _ | 3, _ | 4, _ | 5, _ | 6, _ | 7, _ => rfl
  | n + 8, h => omega
theorem kTab_length : kTab.length = 64 := rfl
/-- cells whose first i are written over by words. -/
def wrW (cs : Array Value) (f : Nat → UInt32) : Nat → Array Value
  | 0 => cs
  | i + 1 => (wrW cs f i).setIfInBounds i (.int .u32 ((f i).toNat : Int))
theorem wrW_get (cs : Array Value) (f : Nat → UInt32) (i j : Nat) (h : i ≤ j) : (wrW cs f i)[j]? = cs[j]? := by
  induction i with
  | zero => rfl
  | succ i ih => simp only [wrW]; rw [Array.getElem?_setIfInBounds_ne (by omega), ih (by omega)]
def St.at (s : St) (i : Nat) : UInt32 := s.list.getD i 0
theorem plus_at (s x : St) (i : Nat) (h : i < 8) : add32 (s.at i) (x.at i) = (s.plus x).at i := by
  match i, h with
  | 0, _ | 1, _ | 2, _ | 3, _ | 4, _ | 5, _ | 6, _ | 7, _ => rfl
  | n + 8, h => omega
theorem be_walk (a b c d : UInt8) : or32 (or32 (or32 (shl32 (toU32 a) 24) (shl32 (toU32 b) 16)) (shl32 (toU32 c) 8)) (toU32 d) = be a b c d := rfl
set_option maxRecDepth 10000 in
theorem kTab_cells : (#[Value.int .u32 1116352408, .int .u32 1899447441, .int .u32 3049323471, .int .u32 3921009573, .int .u32 961987163, .int .u32 1508970993, .int .u32 2453635748, .int .u32 2870763221, .int .u32 3624381080, .int .u32 310598401, .int .u32 607225278, .int .u32 1426881987, .int .u32 1925078388, .int .u32 2162078206, .int .u32 2614888103, .int .u32 3248222580, .int .u32 3835390401, .int .u32 4022224774, .int .u32 264347078, .int .u32 604807628, .int .u32 770255983, .int .u32 1249150122, .int .u32 1555081692, .int .u32 1996064986, .int .u32 2554220882, .int .u32 2821834349, .int .u32 2952996808, .int .u32 3210313671, .int .u32 3336571891, .int .u32 3584528711, .int .u32 113926993, .int .u32 338241895, .int .u32 666307205, .int .u32 773529912, .int .u32 1294757372, .int .u32 1396182291, .int .u32 1695183700, .int .u32 1986661051, .int .u32 2177026350, .int .u32 2456956037, .int .u32 2730485921, .int .u32 2820302411, .int .u32 3259730800, .int .u32 3345764771, .int .u32 3516065817, .int .u32 3600352804, .int .u32 4094571909, .int .u32 275423344, .int .u32 430227734, .int .u32 506948616, .int .u32 659060556, .int .u32 883997877, .int .u32 958139571, .int .u32 1322822218, .int .u32 1537002063, .int .u32 1747873779, .int .u32 1955562222, .int .u32 2024104815, .int .u32 2227730452, .int .u32 2361852424, .int .u32 2428436474, .int .u32 2756734187, .int .u32 3204031479, .int .u32 3329325298] : Array Value) = wcells kTab := by
  simp [wcells, kTab]
theorem kTab_size : (wcells kTab).size = 64 := by rw [wcells_size]; rfl
end Go.Proofs.YtkdkpnidiehdfaaDoor
