/- slices.SortFunc over a row of places, by threads. -/
import Derived.Test.YtaalinhkikmfaaaEe
import Derived.Test.YtaalinhkikmfaaaEf
import Derived.Sort.OwnSorted
set_option linter.unusedSimpArgs false
set_option linter.unusedVariables false
namespace Go.Proofs.Ytaalinhkikmfaaa
open Go.RowKit Go.Sort Go.Shelf

section
variable {α : Type} [Inhabited α]
theorem heap_sortedF {w : World} {g n : Nat} {os : Array Obj} {cur : Array Value} {e : TypeId} {fr : Nat × Nat} (enc : α → Value) (d : Array α) (hb : w.heap[g]? = some (.cells cur e fr)) :
    (grow (putRow enc (Sort.ahead w n) g 0 d) os).heap[g]? = some (.cells (putCells enc 0 d cur) e fr) := by
  have hg : g < w.heap.size := (Array.getElem?_eq_some_iff.1 hb).1
  rw [heap_grow_old _ _ (by simpa using hg)]
  simp [putRow, mapBlock, Sort.ahead, Array.getElem?_modify, hb, onCells]
theorem grownBy_sortedF {w : World} {g n : Nat} {os : Array Obj} (enc : α → Value) (d : Array α) : w.grownBy (grow (putRow enc (Sort.ahead w n) g 0 d) os) (some g) := by
  refine ⟨rfl, rfl, rfl, by simp, fun k hk hne => ?_⟩
  rw [heap_grow_old _ _ (by simpa using hk)]
  have : g ≠ k := fun e => hne (by rw [e])
  simp [putRow, mapBlock, Sort.ahead, Array.getElem?_modify, this]
theorem take_putCellsF (enc : α → Value) (cur : Array Value) (d : Array α) (h : d.size ≤ cur.size) : (putCells enc 0 d cur).toList.take d.size = d.toList.map enc := by
  apply List.ext_getElem?
  intro j
  by_cases hj : j < d.size
  · rw [List.getElem?_take_of_lt hj, Array.getElem?_toList]
    simp [putCells, hj, show j < cur.size by omega]
  · rw [List.getElem?_take_eq_none (by omega), List.getElem?_eq_none (by simp; omega)]
theorem drop_putCellsF (enc : α → Value) (cur : Array Value) (d : Array α) : (putCells enc 0 d cur).toList.drop d.size = cur.toList.drop d.size := by
  apply List.ext_getElem?
  intro j
  rw [List.getElem?_drop, List.getElem?_drop, Array.getElem?_toList, Array.getElem?_toList]
  simp only [putCells, Array.getElem?_mapIdx, Nat.zero_le, true_and, Nat.zero_add]
  cases cur[d.size + j]? with
  | none => rfl
  | some x => simp [show ¬ d.size + j < d.size by omega]
end
def encF (m : Nat) (x : Fin m) : Value := .int .i64 (x.val : Nat)
def cfF (l : List Ev) (m : Nat) (x y : Fin m) : Int := cmpI (ev l x.val).t (ev l y.val).t
theorem cmpI_lt (x y : Int) : decide (cmpI x y < 0) = decide (x < y) := by
  unfold cmpI
  by_cases h1 : x < y
  · simp [h1]
  · by_cases h2 : y < x <;> simp [h1, h2]
theorem ltF (l : List Ev) (m : Nat) (x y : Fin m) : ltOf (cfF l m) x y = decide ((ev l x.val).t < (ev l y.val).t) := cmpI_lt _ _
theorem swoF (l : List Ev) (m : Nat) : SWO (ltOf (cfF l m)) where
  irrefl x := by rw [ltF]; simp
  trans x y z h1 h2 := by rw [ltF] at *; simp at *; omega
  ntrans x y z h1 h2 := by rw [ltF] at *; simp at *; omega
def finL (m : Nat) (js : List Nat) (h : ∀ j ∈ js, j < m) : List (Fin m) := js.pmap (fun j hj => ⟨j, hj⟩) h
theorem finL_val (m : Nat) (js : List Nat) (h : ∀ j ∈ js, j < m) : (finL m js h).map (·.val) = js := by
  unfold finL
  rw [List.map_pmap]
  exact (List.pmap_eq_map (f := fun j : Nat => j) h).trans (List.map_id' _)
theorem finL_len (m : Nat) (js : List Nat) (h : ∀ j ∈ js, j < m) : (finL m js h).length = js.length := by simp [finL]
theorem map_encF (m : Nat) (d : List (Fin m)) : d.map (encF m) = icl (d.map (·.val)) := by
  unfold icl encF
  rw [List.map_map]
  rfl
set_option maxHeartbeats 2000000 in
theorem sort_any (l : List Ev) (m : Nat) (hm : m = l.length) (hml : m ≤ 100000) (A : Option Addr) (c gl B base : Nat) (js : List Nat) (hjs : ∀ j ∈ js, j < m) (k : Nat) (hk : k = js.length) (hk0 : 0 < k) (b cap : Nat) (w : World)
    (ho : w.ownsRow base 3 1 (.slice (some ⟨b, 0, none⟩) k cap) k (icl js)) (hsp : Spare (.int .i64 0) k (.slice (some ⟨b, 0, none⟩) k cap) w) (hkl : k ≤ 100000)
    (hgl : w.cell? ⟨gl, 0, none⟩ = some (.slice A m c)) (hgb : gl ≠ b) (hA : Evs w B A l) (hB : B ≤ base) :
    Calls Try.prog 41 #[.slice (some ⟨b, 0, none⟩) k cap, .func (.func 42) #[] #[.pointer (some ⟨gl, 0, none⟩)]] w fun e w' => e = .returned (.tuple #[]) ∧ ∃ js', js'.Perm js ∧ js'.Pairwise (fun i j => (ev l i).t ≤ (ev l j).t) ∧
      w'.ownsRow base 3 1 (.slice (some ⟨b, 0, none⟩) k cap) k (icl js') ∧ Spare (.int .i64 0) k (.slice (some ⟨b, 0, none⟩) k cap) w' ∧ w.grownBy w' (some b) := by
  have hpos : 0 < m := by
    have h1 : js[0]'(by omega) ∈ js := List.getElem_mem _
    have := hjs _ h1
    omega
  haveI : Inhabited (Fin m) := ⟨⟨0, hpos⟩⟩
  rcases ho.2 with ⟨e, _⟩ | ⟨b', cap', cur, e, hbb, hbc, r1, r2, r3, r4⟩
  · cases e
  injection e with e e2 e3
  injection e with e; injection e with e
  subst e; subst e3
  have hbl := lt_blk hbc
  have hsz : (finL m js hjs).toArray.size = k := by rw [List.size_toArray, finL_len, hk]
  have hH : Sort.Holds (encF m) w b 0 (finL m js hjs).toArray := fun j hj => by
    have hj' : j < js.length := by rw [hsz] at hj; omega
    refine ⟨?_, free_blk hbc _⟩
    rw [cell_blk hbc, Nat.zero_add, ← Array.getElem?_toList]
    have h1 : (cur.toList.take (k * 1))[j]? = some (.int .i64 (js[j] : Nat)) := by rw [r4]; exact icl_get hj'
    rw [List.getElem?_take_of_lt (by omega)] at h1
    rw [h1]
    have h2 : j < (finL m js hjs).length := by rw [finL_len]; exact hj'
    have h3 : (finL m js hjs).toArray[j]! = (finL m js hjs)[j] := by simp [h2]
    have h4 : ((finL m js hjs)[j]).val = js[j] := by
      have := congrArg (fun x => x[j]?) (finL_val m js hjs)
      simp only [List.getElem?_map, List.getElem?_eq_getElem h2, List.getElem?_eq_getElem hj', Option.map_some, Option.some.injEq] at this
      exact this
    rw [h3]
    unfold encF
    rw [h4]
  have hcmp : CmpLays1 Try.prog 42 #[.pointer (some ⟨gl, 0, none⟩)] (encF m) (cfF l m) b 0 (finL m js hjs).toArray.size w := fun mm os dk hdk x y => by
    refine (byThread l m hm A c gl B (sortWorld (encF m) w b 0 mm dk os) ?_ ?_ x.val y.val x.isLt y.isLt).mono ?_
    · rw [World.cell?_of_block ((grownBy_sortedF (n := mm) (os := os) (g := b) (encF m) dk).block gl (World.block_lt_of_cell? _ _ hgl) (by simpa using hgb))]
      exact hgl
    · exact hA.keep fun b2 o hb2 => World.cell?_of_block ((grownBy_sortedF (n := mm) (os := os) (g := b) (encF m) dk).block b2 (by omega) (by simp; omega))
    · rintro e w' ⟨rfl, q, rfl⟩
      exact ⟨rfl, q, #[], (grow_empty _).symm⟩
  have hS := Any.slices_SortFunc sortFL (encF m) (fun _ => rfl) (cfF l m) (swoF l m) 42 #[.pointer (some ⟨gl, 0, none⟩)] b 0 cap (finL m js hjs).toArray w (enters_of Try.func42 (by kernel_rfl) rfl) hcmp hH hbl (by rw [hsz]; omega)
  rw [hsz] at hS
  refine Calls.mono hS ?_
  rintro e w' ⟨rfl, d', nn, os, hp, hs, rfl⟩
  obtain ⟨hp1, _, hp3⟩ := hp
  have hd' : d'.size = k := hp1.trans hsz
  have hperm : d'.toList.Perm (finL m js hjs) := by
    have h1 : d'.extract 0 k = d' := by rw [← hd']; exact Array.extract_size
    have h2 : (finL m js hjs).toArray.extract 0 k = (finL m js hjs).toArray := by rw [← hsz]; exact Array.extract_size
    rw [h1, h2] at hp3
    exact hp3
  have hlen : (d'.toList.map (·.val)).length = k := by rw [List.length_map, Array.length_toList, hd']
  refine ⟨rfl, d'.toList.map (·.val), ?_, ?_, ?_, ?_, grownBy_sortedF _ _⟩
  · have := hperm.map (·.val)
    rw [finL_val] at this
    exact this
  · rw [List.pairwise_map, List.pairwise_iff_getElem]
    intro i j hi hj hij
    have hi2 : i < d'.size := by simpa using hi
    have hj2 : j < d'.size := by simpa using hj
    have := hs i j (Nat.zero_le _) hij (by omega)
    rw [ltF, getElem!_pos d' j hj2, getElem!_pos d' i hi2] at this
    simp only [decide_eq_false_iff_not] at this
    simpa using this
  · refine ⟨by rw [icl_length, hlen]; omega, .inr ⟨b, cap, _, rfl, hbb, heap_sortedF (encF m) d' hbc, r1, r2, by simp [putCells, r3], ?_⟩⟩
    rw [Nat.mul_one, ← hd', take_putCellsF (encF m) cur d' (by omega), map_encF]
  · intro g' hv
    obtain rfl : b = g' := by simpa [Value.ownBlock] using hv
    refine ⟨_, _, _, heap_sortedF (encF m) d' hbc, fun x hx => ?_⟩
    rw [← hd', drop_putCellsF] at hx
    obtain ⟨cur', e', m', hc', hp'⟩ := hsp b rfl
    rw [hbc] at hc'
    cases hc'
    exact hp' x (by rw [← hd']; exact hx)
end Go.Proofs.Ytaalinhkikmfaaa
