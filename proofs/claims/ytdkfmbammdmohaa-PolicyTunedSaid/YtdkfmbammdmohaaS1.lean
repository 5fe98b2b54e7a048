/- slices.SortFunc over a slice of structs that the call owns: behind it the same slice owns a sorted permutation; all other blocks stay. Conditions: the order is a strict weak order, the comparison may draw and lay blocks. -/
import Derived.Sort.OwnSorted
import Derived.Shelf.SlSortCmp.WholeK
import Derived.Shelf.SlSortCmp.NoneTotal
namespace Go.Proofs.YtdkfmbammdmohaaS
set_option linter.unusedSectionVars false
open Go Go.Sort Go.Proofs Go.Shelf Go.RowKit Go.Lib

section
variable {α : Type} [Inhabited α]

theorem flatMap_at (enc : α → List Value) (k : Nat) (hk : ∀ x, (enc x).length = k) : ∀ (d : List α) (t : Nat), t < d.length * k → (d.flatMap enc)[t]? = (enc (d[t / k]!))[t % k]?
  | [], t, h => by simp at h
  | x :: d, t, h => by
    have hk0 : 0 < k := by
      rcases Nat.eq_zero_or_pos k with h0 | h0
      · rw [h0] at h; simp at h
      · exact h0
    rw [List.flatMap_cons]
    by_cases ht : t < k
    · rw [List.getElem?_append_left (by rw [hk]; exact ht), Nat.div_eq_of_lt ht, Nat.mod_eq_of_lt ht]
      rfl
    · have hge : k ≤ t := by omega
      rw [List.getElem?_append_right (by rw [hk]; exact hge), hk]
      have e1 : t / k = (t - k) / k + 1 := by
        rw [Nat.div_eq_sub_div hk0 hge]
      have e2 : t % k = (t - k) % k := Nat.mod_eq_sub_mod hge
      rw [e1, e2, List.getElem!_cons_succ]
      exact flatMap_at enc k hk d (t - k) (by simp [Nat.add_mul] at h; omega)

theorem flatMap_len (enc : α → List Value) (k : Nat) (hk : ∀ x, (enc x).length = k) (d : List α) : (d.flatMap enc).length = d.length * k := by
  induction d with
  | nil => simp
  | cons x d ih => rw [List.flatMap_cons, List.length_append, ih, hk, List.length_cons, Nat.add_mul]; omega

theorem flatK_list (enc : α → List Value) (k : Nat) (hk : ∀ x, (enc x).length = k) (d : List α) : (flatK enc k d.toArray).toList = d.flatMap enc := by
  apply List.ext_getElem?
  intro t
  by_cases ht : t < d.length * k
  · rw [flatMap_at enc k hk d t ht]
    have hk0 : 0 < k := by
      rcases Nat.eq_zero_or_pos k with h0 | h0
      · rw [h0] at ht; simp at ht
      · exact h0
    have hm : t % k < (enc (d[t / k]!)).length := by rw [hk]; exact Nat.mod_lt _ hk0
    rw [List.getElem?_eq_getElem hm]
    have hm2 : t % k < (enc (d[t / k]?.getD default)).length := by rw [hk]; exact Nat.mod_lt _ hk0
    simp [flatK, ht]
    rw [List.getElem?_eq_getElem hm2]
    rfl
  · rw [List.getElem?_eq_none (by simp [flatK]; omega), List.getElem?_eq_none (by rw [flatMap_len enc k hk]; omega)]

theorem putCells_take (cur : Array Value) (F : Array Value) (h : F.size ≤ cur.size) : (putCells id 0 F cur).toList.take F.size = F.toList := by
  apply List.ext_getElem?
  intro j
  by_cases hj : j < F.size
  · rw [List.getElem?_take_of_lt hj, Array.getElem?_toList, Array.getElem?_toList]
    simp [putCells, hj, show j < cur.size by omega]
  · rw [List.getElem?_take_eq_none (by omega), List.getElem?_eq_none (by simp; omega)]

theorem heap_put {w : World} {g n : Nat} {os : Array Obj} {cur : Array Value} {e : TypeId} {fr : Nat × Nat} (F : Array Value) (hb : w.heap[g]? = some (.cells cur e fr)) :
    (grow (putRow id (Sort.ahead w n) g 0 F) os).heap[g]? = some (.cells (putCells id 0 F cur) e fr) := by
  have hg : g < w.heap.size := (Array.getElem?_eq_some_iff.1 hb).1
  rw [heap_grow_old _ _ (by simpa using hg)]
  simp [putRow, mapBlock, Sort.ahead, Array.getElem?_modify, hb, onCells]

theorem grownBy_put {w : World} {g n : Nat} {os : Array Obj} (F : Array Value) : w.grownBy (grow (putRow id (Sort.ahead w n) g 0 F) os) (some g) := by
  refine ⟨rfl, rfl, rfl, by simp, fun k hk hne => ?_⟩
  rw [heap_grow_old _ _ (by simpa using hk)]
  have : g ≠ k := fun e => hne (by rw [e])
  simp [putRow, mapBlock, Sort.ahead, Array.getElem?_modify, this]

variable {P : Program} {ρ : Ren}

theorem sortFunc_own (L : SlLaysF0.n6 P ρ) (k e : Nat) (aE : ∀ w, (isAgg (ρ.t 24)).run P w = .ok true w) (zE : ∀ w, (Go.sizeOf (ρ.t 24)).run P w = .ok k w) (enc : α → List Value) (hk : ∀ x, (enc x).length = k) (h1 : ∀ x, ∀ v ∈ enc x, v.oneCell' = true)
    (cf : α → α → Int) (hO : SWO (ltOf cf)) (g : Nat) (eg : ∀ args w, (callFunc g args).run P w = .ok (.enter g args) w)
    (hcmp : ∀ (x y : α) (W : World), Calls P g #[.agg (enc x).toArray, .agg (enc y).toArray] W fun e w' => e = .returned (.int .i64 (cf x y)) ∧ ∃ q os', w' = grow (W.drewN q) os')
    (base : Nat) (v : Value) (d : List α) (w : World) (ho : w.ownsRow base e k v d.length (d.flatMap enc)) (hsz : d.length < 4611686018427387904) :
    Calls P (ρ.f 6) #[v, .func (.func g) #[] #[]] w fun en w' => en = .returned (.tuple #[]) ∧ ∃ d' : List α, d'.Perm d ∧ d'.Pairwise (fun x y => ltOf cf y x = false) ∧ w'.ownsRow base e k v d'.length (d'.flatMap enc) ∧ w.grownBy w' v.ownBlock := by
  obtain ⟨hlen, hv⟩ := ho
  rcases hv with ⟨rfl, h0⟩ | ⟨b, cap, cur, rfl, hbase, hb, hc1, hc2, hc3, hc4⟩
  · obtain rfl : d = [] := List.eq_nil_of_length_eq_zero h0
    refine (AnyF.slices_SortFunc_none L none 0 _ w).mono ?_
    rintro en w' ⟨rfl, rfl⟩
    exact ⟨rfl, [], List.Perm.refl _, List.Pairwise.nil, ⟨by simp, .inl ⟨rfl, rfl⟩⟩, ⟨rfl, rfl, rfl, Nat.le_refl _, fun _ _ _ => rfl⟩⟩
  · have hblk : b < w.heap.size := (Array.getElem?_eq_some_iff.1 hb).1
    have hH : HoldsK enc k w b 0 d.toArray := by
      intro j hj
      have hj' : j < d.length * k := by simpa using hj
      refine ⟨?_, by simp [World.frozen?, hb]⟩
      have h2 : (cur.toList.take (d.length * k))[j]? = ((flatK enc k d.toArray).toList)[j]? := by rw [hc4, flatK_list enc k hk]
      rw [List.getElem?_take_of_lt hj', Array.getElem?_toList, Array.getElem?_toList] at h2
      simp only [World.cell?, hb, Nat.zero_add, Option.isSome_none, Bool.false_eq_true, if_false]
      rw [h2, Array.getElem?_eq_getElem hj]
      show some _ = some ((flatK enc k d.toArray)[j]!)
      rw [getElem!_pos (flatK enc k d.toArray) j hj]
    have hs : (d.toArray : Array α).size = d.length := by simp
    have hcon := AnyQ.slices_SortFunc L k aE zE enc hk h1 cf hO g #[] b 0 cap d.toArray w eg (fun m os dk hdk x y => by simpa using hcmp x y _) hH hblk (by rw [hs]; exact hsz)
    rw [hs] at hcon
    refine hcon.mono ?_
    rintro en w' ⟨rfl, d', n, os, ⟨hz, _, hp⟩, hso, rfl⟩
    have hz' : d'.size = d.length := by rw [hz, hs]
    refine ⟨rfl, d'.toList, ?_, ?_, ?_, ?_⟩
    · have e1 : d'.extract 0 d.length = d' := by rw [← hz']; simp
      have e2 : (d.toArray).extract 0 d.length = d.toArray := by rw [← hs]; simp
      rw [e1, e2] at hp
      simpa using hp
    · rw [List.pairwise_iff_getElem]
      intro i j hi hj hij
      have hi' : i < d'.size := by simpa using hi
      have hj' : j < d'.size := by simpa using hj
      have := hso i j (Nat.zero_le _) hij (by omega)
      rw [getElem!_pos d' i hi', getElem!_pos d' j hj'] at this
      simpa using this
    · have hF : (flatK enc k d').size = d'.size * k := size_flatK enc k d'
      have hle : (flatK enc k d').size ≤ cur.size := by
        rw [hF, hz', hc3]
        exact Nat.mul_le_mul_right _ hc1
      have hfl : (flatK enc k d').toList = d'.toList.flatMap enc := by
        have := flatK_list enc k hk d'.toList
        simpa using this
      have hl' : d'.toList.length = d.length := by simpa using hz'
      rw [hl']
      refine ⟨by rw [flatMap_len enc k hk, hl'], .inr ⟨b, cap, putCells id 0 (flatK enc k d') cur, rfl, hbase, heap_put _ hb, hc1, hc2, by simp [putCells, hc3], ?_⟩⟩
      have h3 := putCells_take cur (flatK enc k d') hle
      rw [hF, hz', hfl] at h3
      exact h3
    · exact grownBy_put _
end
end Go.Proofs.YtdkfmbammdmohaaS
