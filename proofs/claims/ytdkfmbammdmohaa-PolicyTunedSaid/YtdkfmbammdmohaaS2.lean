/- slices.Sort over a slice of int64 that the call owns: behind it the same slice owns the sorted list; all other blocks stay. -/
import Derived.Sort.OwnSorted
import Derived.Shelf.SortM.Plain
namespace Go.Proofs.YtdkfmbammdmohaaS
open Go Go.Sort Go.Proofs Go.Shelf Go.RowKit Go.Lib
abbrev vI (x : Int) : Value := .int .i64 x
theorem holdsI {w : World} {g : Nat} {cur : Array Value} {e : TypeId} {ss : List Int} (hb : w.heap[g]? = some (.cells cur e (0, 0))) (ht : cur.toList.take ss.length = ss.map vI) : Holds (Value.int .i64) w g 0 ss.toArray := by
  intro j hj
  have hj' : j < ss.length := by simpa using hj
  refine ⟨?_, by simp [World.frozen?, hb]⟩
  have h1 : (cur.toList.take ss.length)[j]? = (ss.map vI)[j]? := by rw [ht]
  rw [List.getElem?_take_of_lt hj'] at h1
  simp only [World.cell?, hb, Nat.zero_add]
  simp only [Option.isSome_none, Bool.false_eq_true, if_false]
  rw [← Array.getElem?_toList, h1]
  simp [hj', vI]
theorem heapI {w : World} {g n : Nat} {os : Array Obj} {cur : Array Value} {e : TypeId} {fr : Nat × Nat} (d : Array Int) (hb : w.heap[g]? = some (.cells cur e fr)) :
    (grow (putRow (Value.int .i64) (Sort.ahead w n) g 0 d) os).heap[g]? = some (.cells (putCells (Value.int .i64) 0 d cur) e fr) := by
  have hg : g < w.heap.size := (Array.getElem?_eq_some_iff.1 hb).1
  rw [heap_grow_old _ _ (by simpa using hg)]
  simp [putRow, mapBlock, Sort.ahead, Array.getElem?_modify, hb, onCells]
theorem grownByI {w : World} {g n : Nat} {os : Array Obj} (d : Array Int) : w.grownBy (grow (putRow (Value.int .i64) (Sort.ahead w n) g 0 d) os) (some g) := by
  refine ⟨rfl, rfl, rfl, by simp, fun k hk hne => ?_⟩
  rw [heap_grow_old _ _ (by simpa using hk)]
  have : g ≠ k := fun e => hne (by rw [e])
  simp [putRow, mapBlock, Sort.ahead, Array.getElem?_modify, this]
theorem takeI (cur : Array Value) (ts : List Int) (h : ts.length ≤ cur.size) : (putCells (Value.int .i64) 0 ts.toArray cur).toList.take ts.length = ts.map vI := by
  apply List.ext_getElem?
  intro j
  by_cases hj : j < ts.length
  · rw [List.getElem?_take_of_lt hj, Array.getElem?_toList]
    simp [putCells, hj, show j < cur.size by omega, vI]
  · rw [List.getElem?_take_eq_none (by omega), List.getElem?_eq_none (by simp; omega)]
theorem sortInt_own {P : Program} {ρ : Ren} (L : SlLaysM.n5 P ρ) (base e : Nat) (v : Value) (d : List Int) (w : World) (ho : w.ownsRow base e 1 v d.length (d.map vI)) (hd : 0 < d.length) (hsz : d.length < 4611686018427387904) :
    Calls P (ρ.f 5) #[v] w fun en w' => en = .returned (.tuple #[]) ∧ w'.ownsRow base e 1 v d.length ((d.mergeSort fun x y => decide (x ≤ y)).map vI) ∧ w.grownBy w' v.ownBlock := by
  rcases ho.2 with ⟨rfl, h0⟩ | ⟨b, cap, cur, rfl, hbase, hb, hc1, hc2, hc3, hc4⟩
  · omega
  · refine (AnyM.slices_Sort_int L b 0 cap d w (holdsI hb (by simpa using hc4)) (Array.getElem?_eq_some_iff.1 hb).1 hsz).mono ?_
    rintro en w' ⟨rfl, n, os, rfl⟩
    have hl : (d.mergeSort fun x y => decide (x ≤ y)).length = d.length := List.length_mergeSort d
    refine ⟨rfl, ⟨by simp [hl], .inr ⟨b, cap, _, rfl, hbase, heapI _ hb, hc1, hc2, by simp [putCells, hc3], ?_⟩⟩, grownByI _⟩
    have := takeI cur (d.mergeSort fun x y => decide (x ≤ y)) (by rw [hl]; omega)
    rw [hl] at this
    rw [Nat.mul_one]
    exact this
end Go.Proofs.YtdkfmbammdmohaaS
