/-
  The hash object as plain data: what its cells are; what a byte does to it. No program.
-/
import Derived.Test.YtkdkpnidiehdfaaDoorSha
import Derived.Test.YtkdkpnidiehdfaaDoorKit
set_option linter.unusedSimpArgs false
set_option linter.unusedVariables false
namespace Go.Proofs.YtkdkpnidiehdfaaDoor
open Go.RowKit

structure HS where
  st : St
  wait : List UInt8
  n : Nat
def HS.init : HS := ⟨St.init, List.replicate 64 0, 0⟩
def bcells (l : List UInt8) : List Value := l.map fun c => Value.int .u8 (c.toNat : Int)
def wlist (l : List UInt32) : List Value := l.map fun x => Value.int .u32 (x.toNat : Int)
def HS.cells (h : HS) : Array Value := (wlist h.st.list ++ (bcells h.wait ++ [Value.int .i64 (h.n : Int), Value.bool true])).toArray
def HS.absorb (h : HS) (c : UInt8) : HS :=
  if (h.n + 1) % 64 = 0 then ⟨compress h.st (fun j => (h.wait.set (h.n % 64) c).getD j 0), h.wait.set (h.n % 64) c, h.n + 1⟩
  else ⟨h.st, h.wait.set (h.n % 64) c, h.n + 1⟩
def HS.take_ (h : HS) (l : List UInt8) : HS := l.foldl HS.absorb h

theorem absorb_n (h : HS) (c : UInt8) : (h.absorb c).n = h.n + 1 := by unfold HS.absorb; split <;> rfl
theorem absorb_wait (h : HS) (c : UInt8) : (h.absorb c).wait.length = h.wait.length := by unfold HS.absorb; split <;> simp
theorem take_n (h : HS) (l : List UInt8) : (h.take_ l).n = h.n + l.length := by
  induction l generalizing h with
  | nil => rfl
  | cons c l ih => show ((h.absorb c).take_ l).n = _; rw [ih, absorb_n, List.length_cons]; omega
theorem take_wait (h : HS) (l : List UInt8) : (h.take_ l).wait.length = h.wait.length := by
  induction l generalizing h with
  | nil => rfl
  | cons c l ih => show ((h.absorb c).take_ l).wait.length = _; rw [ih, absorb_wait]
theorem take_app (h : HS) (l r : List UInt8) : h.take_ (l ++ r) = (h.take_ l).take_ r := by simp [HS.take_]
theorem take_succ (h : HS) (l : List UInt8) (t : Nat) (ht : t < l.length) : h.take_ (l.take (t + 1)) = (h.take_ (l.take t)).absorb (l.getD t 0) := by
  rw [List.take_succ_eq_append_getElem ht, take_app]
  simp [HS.take_, List.getD_eq_getElem?_getD, ht]

theorem hcells_size (h : HS) (hl : h.wait.length = 64) : h.cells.size = 74 := by simp [HS.cells, wlist, bcells, St.list_length, hl]
theorem hcells_st (h : HS) (i : Nat) (hi : i < 8) : h.cells[i]? = some (.int .u32 (h.st.at i).toNat) := by
  have hl := St.list_length h.st
  simp only [HS.cells, List.getElem?_toArray]
  rw [List.getElem?_append_left (by simp [wlist, hl, hi])]
  simp [wlist, St.at, List.getElem?_map, List.getD_eq_getElem?_getD, hl, hi]
theorem hcells_wait (h : HS) (hl : h.wait.length = 64) (i : Nat) (hi : i < 64) : h.cells[8 + i]? = some (.int .u8 (h.wait.getD i 0).toNat) := by
  have hs := St.list_length h.st
  simp only [HS.cells, List.getElem?_toArray]
  rw [List.getElem?_append_right (by simp [wlist, hs]), List.getElem?_append_left (by simp [wlist, bcells, hs, hl]; omega)]
  simp [wlist, bcells, hs, List.getD_eq_getElem?_getD, hl, hi]
theorem hcells_n (h : HS) (hl : h.wait.length = 64) : h.cells[72]? = some (.int .i64 (h.n : Int)) := by
  have hs := St.list_length h.st
  simp only [HS.cells, List.getElem?_toArray]
  rw [List.getElem?_append_right (by simp [wlist, hs]), List.getElem?_append_right (by simp [wlist, bcells, hs, hl])]
  simp [wlist, bcells, hs, hl]
theorem hcells_made (h : HS) (hl : h.wait.length = 64) : h.cells[73]? = some (.bool true) := by
  have hs := St.list_length h.st
  simp only [HS.cells, List.getElem?_toArray]
  rw [List.getElem?_append_right (by simp [wlist, hs]), List.getElem?_append_right (by simp [wlist, bcells, hs, hl])]
  simp [wlist, bcells, hs, hl]
/-- a byte is put into the waiting room, and the count goes on. -/
theorem hcells_put (h : HS) (hl : h.wait.length = 64) (i : Nat) (hi : i < 64) (c : UInt8) :
    (h.cells.setIfInBounds (8 + i) (.int .u8 (c.toNat : Int))).setIfInBounds 72 (.int .i64 ((h.n : Int) + 1)) = (HS.mk h.st (h.wait.set i c) (h.n + 1)).cells := by
  have wl : (wlist h.st.list).length = 8 := by simp [wlist, St.list_length]
  have bl : (bcells h.wait).length = 64 := by simp [bcells, hl]
  have bl' : (bcells (h.wait.set i c)).length = 64 := by simp [bcells, hl]
  have h1 : ∀ R : List Value, (wlist h.st.list ++ (bcells h.wait ++ R)).set (8 + i) (.int .u8 (c.toNat : Int)) = wlist h.st.list ++ (bcells (h.wait.set i c) ++ R) := by
    intro R
    rw [List.set_append_right (8 + i) _ (by omega), wl, Nat.add_sub_cancel_left, List.set_append_left i _ (by omega)]
    simp [bcells, List.map_set]
  have h2 : ∀ (x : Value) (R : List Value), (wlist h.st.list ++ (bcells (h.wait.set i c) ++ x :: R)).set 72 (.int .i64 ((h.n : Int) + 1)) = wlist h.st.list ++ (bcells (h.wait.set i c) ++ .int .i64 ((h.n : Int) + 1) :: R) := by
    intro x R
    rw [List.set_append_right 72 _ (by omega), wl, List.set_append_right (72 - 8) _ (by omega), bl']
    rfl
  simp only [HS.cells, List.setIfInBounds_toArray]
  rw [h1, h2]
  simp
theorem hcells_block (h : HS) (y : St) : wrW h.cells y.at 8 = (HS.mk y h.wait h.n).cells := by
  simp only [wrW, HS.cells, wlist, St.list, St.at, List.setIfInBounds_toArray, List.map_cons, List.map_nil, List.cons_append, List.nil_append, List.set_cons_zero, List.set_cons_succ, List.getD_cons_zero, List.getD_cons_succ]

/-- a slice of bytes in blocks below B reads as l. -/
def Bs (w : World) (B : Nat) (A : Option Addr) (l : List UInt8) : Prop :=
  ∀ j, j < l.length → ∃ b off, A = some ⟨b, off, none⟩ ∧ b < B ∧ w.cell? ⟨b, off + j, none⟩ = some (.int .u8 (l.getD j 0).toNat)
theorem Bs.keep {w w' : World} {B : Nat} {A : Option Addr} {l : List UInt8} (h : Bs w B A l) (hk : ∀ b o, b < B → w'.cell? ⟨b, o, none⟩ = w.cell? ⟨b, o, none⟩) : Bs w' B A l := fun j hj => by
  obtain ⟨b, off, e, hb, hc⟩ := h j hj
  exact ⟨b, off, e, hb, (hk b _ hb).trans hc⟩
theorem Bs.below {w w' : World} {B : Nat} {A : Option Addr} {l : List UInt8} (h : Bs w B A l) (hb : Below B w w') : Bs w' B A l := h.keep fun b o hbB => hb.cell (p := ⟨b, o, none⟩) hbB
theorem Bs.grown {w w' : World} {B : Nat} {A : Option Addr} {l : List UInt8} {row : Option Nat} (h : Bs w B A l) (hg : w.grownBy w' row) (hB : B ≤ w.heap.size) (hr : ∀ g, row = some g → B ≤ g) : Bs w' B A l :=
  h.keep fun b o hb => World.cell?_of_block (hg.block b (by omega) (fun e => by have := hr _ e.symm; omega))
theorem Bs.more {w : World} {B B' : Nat} {A : Option Addr} {l : List UInt8} (h : Bs w B A l) (hB : B ≤ B') : Bs w B' A l := fun j hj => by
  obtain ⟨b, off, e, hb, hc⟩ := h j hj
  exact ⟨b, off, e, by omega, hc⟩
theorem Bs.blk {w : World} {g : Nat} {T : TypeId} {l : List UInt8} (h : w.heap[g]? = some (.cells (bcells l).toArray T (0, 0))) : Bs w w.heap.size (some ⟨g, 0, none⟩) l := fun j hj =>
  ⟨g, 0, rfl, lt_blk h, by rw [cell_blk h]; simp [bcells, List.getD_eq_getElem?_getD, hj]⟩
theorem Bs.nil (w : World) (B : Nat) (A : Option Addr) : Bs w B A [] := fun j hj => absurd hj (by simp)

/- THE DIGEST AS PLAIN DATA -/
/-- the first i of a number's eight bytes, the highest first. -/
def bt (n k : Nat) : UInt8 := UInt8.ofNat (n / 2 ^ k)
def eightL (n i : Nat) : List UInt8 := (List.range i).map fun j => bt n (56 - 8 * j)
def eight (n : Nat) : List UInt8 := eightL n 8
theorem eightL_succ (n i : Nat) : eightL n (i + 1) = eightL n i ++ [bt n (56 - 8 * i)] := by simp [eightL, List.range_succ]
theorem eightL_length (n i : Nat) : (eightL n i).length = i := by simp [eightL]
/-- a message whose length is made 56 modulo 64. -/
def padz (l : List UInt8) : List UInt8 := l ++ List.replicate ((120 - l.length % 64) % 64) 0
def padded (l : List UInt8) (bits : Nat) : List UInt8 := padz (l ++ [128]) ++ eight bits
/-- the state behind k blocks. -/
def blk (s : St) (l : List UInt8) : Nat → St
  | 0 => s
  | k + 1 => compress (blk s l k) (fun j => l.getD (64 * k + j) 0)
/-- the bytes of the eight numbers: the first i of thirty-two. -/
def dby (s : St) (i : Nat) : UInt8 := (s.at (i / 4) >>> UInt32.ofNat (24 - 8 * (i % 4))).toUInt8
def dbytes (s : St) : List UInt8 := (List.range 32).map (dby s)
def bitsOf (n : Nat) : Nat := 8 * n % 18446744073709551616
theorem bitsOf_lt (n : Nat) : bitsOf n < 18446744073709551616 := Nat.mod_lt _ (by omega)
theorem u64_bits (n : Nat) : IntKind.u64.wrap (8 * IntKind.u64.wrap (n : Int)) = (bitsOf n : Nat) := by
  simp only [IntKind.wrap, IntKind.bits, IntKind.signed, bitsOf]; simp; omega
def sha (l : List UInt8) : List UInt8 := dbytes (blk St.init (padded l (bitsOf l.length)) ((padded l 0).length / 64))
theorem dbytes_length (s : St) : (dbytes s).length = 32 := by simp [dbytes]
theorem padz_length (l : List UInt8) : (padz l).length % 64 = 56 := by simp only [padz, List.length_append, List.length_replicate]; omega
theorem padded_length (l : List UInt8) (n : Nat) : (padded l n).length % 64 = 0 := by
  have := padz_length (l ++ [128])
  simp only [padded, List.length_append, eight, eightL_length]; omega
theorem padded_len (l : List UInt8) (n m : Nat) : (padded l n).length = (padded l m).length := by simp [padded, eight, eightL_length]
theorem padz_bound (l : List UInt8) : (padz l).length ≤ l.length + 63 := by simp only [padz, List.length_append, List.length_replicate]; omega
/-- one zero more, as long as the length is not right. -/
theorem padz_more (l : List UInt8) (k : Nat) (hk : k ≤ (120 - l.length % 64) % 64) : (l.length + k) % 64 ≠ 56 ↔ k < (120 - l.length % 64) % 64 := by omega
/-- the digest's bytes while they are written: i of thirty-two are in. -/
def dlist (s : St) (i : Nat) : List UInt8 := (List.range i).map (dby s) ++ List.replicate (32 - i) 0
theorem dlist_length (s : St) (i : Nat) (h : i ≤ 32) : (dlist s i).length = 32 := by simp [dlist]; omega
theorem dlist_last (s : St) : dlist s 32 = dbytes s := by simp [dlist, dbytes]
theorem dlist_set (s : St) (i : Nat) (h : i < 32) : (dlist s i).set i (dby s i) = dlist s (i + 1) := by
  have e : 32 - i = (32 - (i + 1)) + 1 := by omega
  simp only [dlist]
  rw [List.set_append_right _ _ (by simp), List.length_map, List.length_range, Nat.sub_self, e, List.replicate_succ, List.set_cons_zero, List.range_succ, List.map_append, List.append_assoc]
  rfl
theorem bcells_set (l : List UInt8) (i : Nat) (c : UInt8) : (bcells l).toArray.setIfInBounds i (.int .u8 (c.toNat : Int)) = (bcells (l.set i c)).toArray := by
  simp [bcells, List.map_set]
theorem dby_walk (s : St) (i : Nat) : (((s.at (i / 4)).toNat : Int) / 2 ^ (24 - 8 * (i % 4))) % 256 = ((dby s i).toNat : Int) := by
  rw [u32_shr _ _ (by omega), u32_to_u8m]; rfl
theorem St.cells_at (s : St) (i : Nat) (h : i < 8) : s.cells[i]? = some (.int .u32 (s.at i).toNat) := by
  rw [St.cells_eq, wcells_get _ _ (by rw [St.list_length]; exact h)]; rfl
/-- what a hash tells. -/
def HS.mess (h : HS) : List UInt8 := padz (h.wait.take (h.n % 64) ++ [128]) ++ eight (bitsOf h.n)
def HS.finish (h : HS) : List UInt8 := dbytes (blk h.st h.mess ((padz (h.wait.take (h.n % 64) ++ [128])).length / 64 + 1))
theorem u64_bits' (n : Nat) : IntKind.u64.wrap (IntKind.u64.wrap (n : Int) * 8) = (bitsOf n : Nat) := by
  rw [Int.mul_comm]; exact u64_bits n
theorem wrW_cells (s y : St) : wrW s.cells y.at 8 = y.cells := by
  simp [wrW, St.cells, St.at, St.list]
theorem dby_four (s : St) (i : Nat) :
    (((s.at i).toNat : Int) / 16777216) % 256 = ((dby s (4 * i)).toNat : Int) ∧ (((s.at i).toNat : Int) / 65536) % 256 = ((dby s (4 * i + 1)).toNat : Int) ∧
    (((s.at i).toNat : Int) / 256) % 256 = ((dby s (4 * i + 2)).toNat : Int) ∧ ((s.at i).toNat : Int) % 256 = ((dby s (4 * i + 3)).toNat : Int) := by
  have h0 := dby_walk s (4 * i)
  have h1 := dby_walk s (4 * i + 1)
  have h2 := dby_walk s (4 * i + 2)
  have h3 := dby_walk s (4 * i + 3)
  rw [show 4 * i / 4 = i by omega, show 24 - 8 * (4 * i % 4) = 24 by omega] at h0
  rw [show (4 * i + 1) / 4 = i by omega, show 24 - 8 * ((4 * i + 1) % 4) = 16 by omega] at h1
  rw [show (4 * i + 2) / 4 = i by omega, show 24 - 8 * ((4 * i + 2) % 4) = 8 by omega] at h2
  rw [show (4 * i + 3) / 4 = i by omega, show 24 - 8 * ((4 * i + 3) % 4) = 0 by omega] at h3
  refine ⟨h0, h1, h2, ?_⟩
  rw [← h3]; simp
theorem dlist_four (s : St) (i : Nat) (h : i < 8) : ((((dlist s (4 * i)).set (4 * i) (dby s (4 * i))).set (4 * i + 1) (dby s (4 * i + 1))).set (4 * i + 2) (dby s (4 * i + 2))).set (4 * i + 3) (dby s (4 * i + 3)) = dlist s (4 * (i + 1)) := by
  rw [dlist_set s (4 * i) (by omega), dlist_set s (4 * i + 1) (by omega), dlist_set s (4 * i + 2) (by omega), dlist_set s (4 * i + 3) (by omega)]
  rfl
end Go.Proofs.YtkdkpnidiehdfaaDoor
