/- Maps from int to values of one cell, as a function from keys to values: look-up, store, delete, len, range. -/
import Derived.Maps.RangeWalk
import Derived.Maps.OwnSet
import Derived.Sort.OwnSorted
import Derived.Shelf.SlSortCmp.WholeK
import Derived.Shelf.SlSortCmp.NoneTotal
import Derived.Shelf.SortM.Plain
import Derived.Shelf.SlicesQ.IndexFunc
import Derived.Ground.SlsfProg
import Derived.Ground.SlgfProg
import Derived.Test.YtdkfmbammdmohaaProg
import Derived.Ground.SlgmProg
namespace Go.Proofs.YtdkfmbammdmohaaM
open Go Go.Maps
set_option linter.unusedVariables false

/-- How the elements of a map stand as values, and how they read. -/
structure El (β : Type) where
  enc : β → Value
  dat : β → DataW Unit
  R : Value → Option (DataW Unit × List MemPlace)
  put : ∀ y, R (enc y) = some (dat y, [])
  inv : ∀ v z, R v = some z → ∃ y, v = enc y ∧ z.1 = dat y
  inj : ∀ y y', dat y = dat y' → y = y'

/-- Elements that are int64s. -/
def elInt : El Int where
  enc n := .int .i64 n
  dat n := .lit (.int .i64 n)
  R v := match v with | .int .i64 n => some (.lit (.int .i64 n), []) | _ => none
  put _ := rfl
  inv v z h := by
    split at h
    · injection h with h; subst h; exact ⟨_, rfl, rfl⟩
    · cases h
  inj y y' h := by injection h with h; injection h

/-- Elements that are pointers to the head of a block. -/
def elPtr : El Nat where
  enc b := .pointer (some ⟨b, 0, none⟩)
  dat b := .lit (.int .i64 b)
  R v := match v with | .pointer (some ⟨b, 0, none⟩) => some (.lit (.int .i64 (b : Int)), []) | _ => none
  put _ := rfl
  inv v z h := by
    split at h
    · injection h with h; subst h; exact ⟨_, rfl, rfl⟩
    · cases h
  inj y y' h := by injection h with h; injection h with _ h; exact Int.ofNat.inj h

abbrev wfk (p : Int) : Prop := (Lit.int .i64 p).wf = true

section
variable {β : Type} {P : Program} {kt : TypeId}

/-- Block b is a map that holds just what f says; cnt keys; at most N entries were ever stored. -/
def IM (P : Program) (kt : TypeId) (E : El β) (w : World) (b : Nat) (f : Int → Option β) (cnt N : Nat) : Prop :=
  ∃ n D, w.ownsMap P kt E.R b n D ∧ n ≤ N ∧ Maps.size D = cnt ∧ (∀ p, wfk p → Maps.has D (.int .i64 p) = (f p).isSome) ∧ (∀ p y, wfk p → f p = some y → ∀ z, D.atKey (.int .i64 p) z = E.dat y) ∧ (∀ p, ¬ wfk p → f p = none)

variable {E : El β} {w w' : World} {b : Nat} {f : Int → Option β} {cnt N : Nat}

theorem keyLit {p : Int} : WideAt.IsKeyLit (.int .i64 p) := by constructor

theorem IM.made (P : Program) (kt : TypeId) (E : El β) (w : World) : IM P kt E (w.alloc (.map #[] 0)) w.heap.size (fun _ => none) 0 0 :=
  ⟨0, .map [], World.ownsMap_made _ _ _ _, Nat.le_refl _, rfl, fun _ _ => rfl, fun _ _ _ h => by simp at h, fun _ _ => rfl⟩

theorem IM.lt (h : IM P kt E w b f cnt N) : b < w.heap.size := by obtain ⟨n, D, ho, _⟩ := h; exact ho.lt

theorem IM.kept {row : Option Nat} (h : IM P kt E w b f cnt N) (hg : w.grownBy w' row) (hne : some b ≠ row) : IM P kt E w' b f cnt N := by
  obtain ⟨n, D, ho, r⟩ := h
  exact ⟨n, D, ho.kept hg hne, r⟩

theorem IM.block (h : IM P kt E w b f cnt N) (hb : w'.heap[b]? = w.heap[b]?) : IM P kt E w' b f cnt N := by
  obtain ⟨n, D, ⟨es, cl, h1, h2⟩, r⟩ := h
  exact ⟨n, D, ⟨es, cl, hb.trans h1, h2⟩, r⟩

theorem IM.isMap (h : IM P kt E w b f cnt N) : ∃ es cl, w.heap[b]? = some (.map es cl) := by
  obtain ⟨n, D, ⟨es, cl, h1, h2⟩, r⟩ := h
  exact ⟨es, cl, h1⟩

theorem IM.ne (h : IM P kt E w b f cnt N) {g : Nat} {c : Array Value} {t : TypeId} {fr : Nat × Nat} (hg : w.heap[g]? = some (.cells c t fr)) : g ≠ b := by
  rintro rfl
  obtain ⟨es, cl, h1⟩ := h.isMap
  rw [h1] at hg
  injection hg with hg
  cases hg

theorem IM.look (h : IM P kt E w b f cnt N) (hk : P.underlying kt = some (.int .i64)) {t e : TypeId} (ht : P.underlying t = some (.map kt e)) {z : β} (hz : (zeroValue e).run P w = .ok (E.enc z) w) {p : Int} (hp : wfk p) :
    (Instr.lookup t (.map (some b)) (.int .i64 p) true).run P w = .ok (.tuple #[E.enc ((f p).getD z), .bool (f p).isSome]) w := by
  obtain ⟨n, D, ho, _, _, hh, ha, _⟩ := h
  obtain ⟨v, ps, hrun, hv⟩ := ho.look_ok (int_keyed hk) ht hz (E.put z) (keyOf_int_mk hk hp)
  rw [hrun, hh p hp]
  have hv' : v = E.enc ((f p).getD z) := by
    obtain ⟨y, rfl, hy⟩ := E.inv _ _ hv
    congr 1
    apply E.inj
    rw [← hy]
    cases hf : f p with
    | some y' => exact ha p y' hp hf _
    | none => exact Maps.atKey_of_not_has (by rw [hh p hp, hf]; rfl) _
  rw [hv']

/-- the look-up without ok -/
theorem IM.look1 (h : IM P kt E w b f cnt N) (hk : P.underlying kt = some (.int .i64)) {t e : TypeId} (ht : P.underlying t = some (.map kt e)) {z : β} (hz : (zeroValue e).run P w = .ok (E.enc z) w) {p : Int} (hp : wfk p) :
    (Instr.lookup t (.map (some b)) (.int .i64 p) false).run P w = .ok (E.enc ((f p).getD z)) w := by
  obtain ⟨n, D, ho, _, _, hh, ha, _⟩ := h
  obtain ⟨es, clock, hb, F, _, rfl⟩ := ho
  rcases Maps.fit_look false (int_keyed hk) ht hz hb F (keyOf_int_mk hk hp) with ⟨hrun, _, hat⟩ | ⟨e0, y, _, _, hrun, hRv, hat, _⟩
  · rw [hrun]
    have : f p = none := by
      have h1 := hh p hp
      rw [Maps.has_false_of_atKey hat] at h1
      cases hf : f p with
      | none => rfl
      | some y => rw [hf] at h1; cases h1
    rw [this]
    rfl
  · rw [hrun]
    have h1 := hh p hp
    rw [Maps.has_true_of_atKey hat] at h1
    cases hf : f p with
    | none => rw [hf] at h1; cases h1
    | some y' =>
      obtain ⟨y2, e2, hy2⟩ := E.inv _ _ hRv
      have h3 := ha p y' hp hf (.lit (.bool true))
      rw [hat] at h3
      simp only [Bool.false_eq_true, if_false]
      rw [e2]
      congr 2
      exact E.inj _ _ (by rw [← hy2, h3]; rfl)

theorem IM.len (h : IM P kt E w b f cnt N) {t e : TypeId} (ht : P.underlying t = some (.map kt e)) (ty : TypeId) : (Builtin.len_ #[t] ty #[.map (some b)]).run P w = .ok (.int .i64 cnt) w := by
  obtain ⟨n, D, ho, _, hc, _⟩ := h
  rw [ho.len ht ty, hc]

theorem IM.store (h : IM P kt E w b f cnt N) (hk : P.underlying kt = some (.int .i64)) {t e : TypeId} (ht : P.underlying t = some (.map kt e)) (hn : N < maxLen) {p : Int} (hp : wfk p) (y : β) :
    ∃ w', (Instr.mapUpdate t (.map (some b)) (.int .i64 p) (E.enc y)).run P w = .ok () w' ∧ IM P kt E w' b (fun q => if q = p then some y else f q) (if (f p).isSome then cnt else cnt + 1) (N + 1) ∧ w.mapTurned w' b := by
  obtain ⟨n, D, ho, hnN, hc, hh, ha, hw⟩ := h
  have hti := ho.tidy (int_keyed hk)
  obtain ⟨w', hrun, ho', hm⟩ := ho.store (int_keyed hk) ht (Nat.lt_of_le_of_lt hnN hn) (keyOf_int_mk hk hp) (E.put y)
  refine ⟨w', hrun, ⟨n + 1, _, ho', by omega, ?_, fun q hq => ?_, fun q y' hq hy z => ?_, fun q hq => ?_⟩, hm⟩
  · rw [Maps.size_put hti, hh p hp, hc]
  · by_cases e1 : q = p
    · subst e1
      rw [Maps.has_put_same hti.isMap keyLit]
      simp
    · rw [Maps.has_put_other (by intro h; injection h with _ h; exact e1 h), hh q hq]
      simp [e1]
  · by_cases e1 : q = p
    · subst e1
      simp at hy
      subst hy
      exact Maps.atKey_put_same hti.isMap keyLit _ _
    · simp only [e1, if_false] at hy
      rw [Maps.atKey_put_other (by intro h; injection h with _ h; exact e1 h)]
      exact ha q y' hq hy z
  · by_cases e1 : q = p
    · subst e1; exact absurd hp hq
    · simp [e1, hw q hq]

theorem IM.drop (h : IM P kt E w b f cnt N) (hk : P.underlying kt = some (.int .i64)) {t e : TypeId} (ht : P.underlying t = some (.map kt e)) {p : Int} (hp : wfk p) (ty : TypeId) :
    ∃ w', (Builtin.delete_ #[t, kt] ty #[.map (some b), .int .i64 p]).run P w = .ok (.tuple #[]) w' ∧ IM P kt E w' b (fun q => if q = p then none else f q) (if (f p).isSome then cnt - 1 else cnt) N ∧ w.mapTurned w' b := by
  obtain ⟨n, D, ho, hnN, hc, hh, ha, hw⟩ := h
  have hti := ho.tidy (int_keyed hk)
  obtain ⟨w', hrun, ho', hm⟩ := ho.drop (int_keyed hk) ht (keyOf_int_mk hk hp) ty
  refine ⟨w', hrun, ⟨n, _, ho', hnN, ?_, fun q hq => ?_, fun q y' hq hy z => ?_, fun q hq => ?_⟩, hm⟩
  · have := Maps.size_del (k := .int .i64 p) hti
    rw [hh p hp, hc] at this
    cases hf : (f p).isSome <;> rw [hf] at this <;> simp at this ⊢ <;> omega
  · by_cases e1 : q = p
    · subst e1
      rw [Maps.has_del_same]
      simp
    · rw [Maps.has_del_other (by intro h; injection h with _ h; exact e1 h), hh q hq]
      simp [e1]
  · by_cases e1 : q = p
    · subst e1
      simp at hy
    · simp only [e1, if_false] at hy
      rw [Maps.atKey_del_other (by intro h; injection h with _ h; exact e1 h)]
      exact ha q y' hq hy z
  · by_cases e1 : q = p
    · subst e1; simp
    · simp [e1, hw q hq]

/-- A range under way: block r is an iterator over the map b; the keys of 'left' are still to come, cnt of them. -/
def IR (P : Program) (kt : TypeId) (E : El β) (w : World) (b r : Nat) (f : Int → Option β) (left : Int → Bool) (cnt : Nat) : Prop :=
  ∃ n D L, w.ranges P kt E.R b r n D L cnt ∧ (∀ p, wfk p → Maps.has D (.int .i64 p) = (f p).isSome) ∧ (∀ p y, wfk p → f p = some y → ∀ z, D.atKey (.int .i64 p) z = E.dat y) ∧ (∀ p, ¬ wfk p → f p = none) ∧ (∀ p, wfk p → L (.int .i64 p) = left p) ∧ (∀ p, ¬ wfk p → left p = false)

theorem IM.range (h : IM P kt E w b f cnt N) (hk : P.underlying kt = some (.int .i64)) {t e : TypeId} (ht : P.underlying t = some (.map kt e)) :
    ∃ w', (Instr.range t (.map (some b))).run P w = .ok (.pointer (some ⟨w.heap.size, 0, none⟩)) w' ∧ IR P kt E w' b w.heap.size f (fun p => (f p).isSome) cnt ∧ w.grownBy w' none ∧ w'.heap.size = w.heap.size + 1 := by
  obtain ⟨n, D, ho, hnN, hc, hh, ha, hw⟩ := h
  obtain ⟨w', hrun, hr, hg, hs⟩ := ho.range (int_keyed hk) ht
  rw [hc] at hr
  exact ⟨w', hrun, ⟨n, D, _, hr, hh, ha, hw, hh, fun p hp => by simp [hw p hp]⟩, hg, hs⟩

theorem IR.next {r : Nat} {left : Int → Bool} (h : IR P kt E w b r f left cnt) (hk : P.underlying kt = some (.int .i64)) (ty : TypeId) :
    (cnt = 0 ∧ (∀ p, left p = false) ∧ (Instr.next (.pointer (some ⟨r, 0, none⟩)) false ty).run P w = .ok (.tuple #[.bool false]) w) ∨
    ∃ p y w' cnt', left p = true ∧ f p = some y ∧ (Instr.next (.pointer (some ⟨r, 0, none⟩)) false ty).run P w = .ok (.tuple #[.bool true, .int .i64 p, E.enc y]) w' ∧
      IR P kt E w' b r f (fun q => left q && !(q == p)) cnt' ∧ cnt' < cnt ∧ w.grownBy w' (some r) ∧ w'.heap.size = w.heap.size ∧ (Instr.entry (.pointer (some ⟨r, 0, none⟩))).run P w' = .ok (.tuple #[.int .i64 p, E.enc y]) w' := by
  obtain ⟨n, D, L, hr, hh, ha, hw, hL, hL0⟩ := h
  rcases hr.next (int_keyed hk) ty with ⟨h0, hl, hrun⟩ | ⟨key, v, kl, y, w', cnt', hkey, hl, hRv, hat, hrun, hr', hlt, hg, hs, hen⟩
  · refine Or.inl ⟨h0, fun p => ?_, hrun⟩
    by_cases hp : wfk p
    · rw [← hL p hp]; exact hl _
    · exact hL0 p hp
  · obtain ⟨p, rfl, rfl, hp⟩ := Maps.keyOf_int_inv hk hkey
    have h1 := hh p hp
    rw [Maps.has_true_of_atKey hat] at h1
    cases hf : f p with
    | none => rw [hf] at h1; cases h1
    | some y' =>
      obtain ⟨y2, rfl, hy2⟩ := E.inv _ _ hRv
      have h3 := ha p y' hp hf (.lit (.bool true))
      rw [hat] at h3
      obtain rfl : y2 = y' := E.inj _ _ (by rw [← hy2, h3])
      refine Or.inr ⟨p, y2, w', cnt', by rw [← hL p hp]; exact hl, hf, hrun, ⟨n, D, _, hr', hh, ha, hw, fun q hq => ?_, fun q hq => ?_⟩, hlt, hg, hs, hen⟩
      · show (L (.int .i64 q) && !Lit.sameKey (.int .i64 q) (.int .i64 p)) = _
        rw [hL q hq]
        by_cases e1 : q = p
        · subst e1
          rw [WideAt.sameKey_self keyLit]
          simp
        · rw [Maps.sameKey_ne (by intro h; injection h with _ h; exact e1 h)]
          simp [e1]
      · simp [hL0 q hq]

theorem IR.left_eq {r : Nat} {left : Int → Bool} (h : IR P kt E w b r f left cnt) : w.rangeLeft b r = cnt := by
  obtain ⟨n, D, L, hr, _⟩ := h
  exact hr.left_eq
theorem IR.kept {row : Option Nat} {r : Nat} {left : Int → Bool} (h : IR P kt E w b r f left cnt) (hg : w.grownBy w' row) (hb : some b ≠ row) (hr' : some r ≠ row) : IR P kt E w' b r f left cnt := by
  obtain ⟨n, D, L, hr, q⟩ := h
  exact ⟨n, D, L, hr.kept hg hb hr', q⟩
end
end Go.Proofs.YtdkfmbammdmohaaM

namespace Go.Proofs.YtdkfmbammdmohaaS
set_option linter.unusedSectionVars false
open Go Go.Sort Go.Proofs Go.Shelf Go.RowKit Go.Lib

section
variable {α : Type} [Inhabited α]

theorem flatMap_at (enc : α → List Value) (k : Nat) (hk : ∀ x, (enc x).length = k) : ∀ (d : List α) (t : Nat), t < d.length * k → (d.flatMap enc)[t]? = (enc (d[t / k]!))[t % k]?
  | [], t, h => by simp at h
  | x :: d, t, h => by
    have hk0 : 0 < k := by
      rcases Nat.eq_zero_or_pos k with h0 | h0
      · rw [h0] at h; simp at h
      · exact h0
    rw [List.flatMap_cons]
    by_cases ht : t < k
    · rw [List.getElem?_append_left (by rw [hk]; exact ht), Nat.div_eq_of_lt ht, Nat.mod_eq_of_lt ht]
      rfl
    · have hge : k ≤ t := by omega
      rw [List.getElem?_append_right (by rw [hk]; exact hge), hk]
      have e1 : t / k = (t - k) / k + 1 := by
        rw [Nat.div_eq_sub_div hk0 hge]
      have e2 : t % k = (t - k) % k := Nat.mod_eq_sub_mod hge
      rw [e1, e2, List.getElem!_cons_succ]
      exact flatMap_at enc k hk d (t - k) (by simp [Nat.add_mul] at h; omega)

theorem flatMap_len (enc : α → List Value) (k : Nat) (hk : ∀ x, (enc x).length = k) (d : List α) : (d.flatMap enc).length = d.length * k := by
  induction d with
  | nil => simp
  | cons x d ih => rw [List.flatMap_cons, List.length_append, ih, hk, List.length_cons, Nat.add_mul]; omega

theorem flatK_list (enc : α → List Value) (k : Nat) (hk : ∀ x, (enc x).length = k) (d : List α) : (flatK enc k d.toArray).toList = d.flatMap enc := by
  apply List.ext_getElem?
  intro t
  by_cases ht : t < d.length * k
  · rw [flatMap_at enc k hk d t ht]
    have hk0 : 0 < k := by
      rcases Nat.eq_zero_or_pos k with h0 | h0
      · rw [h0] at ht; simp at ht
      · exact h0
    have hm : t % k < (enc (d[t / k]!)).length := by rw [hk]; exact Nat.mod_lt _ hk0
    rw [List.getElem?_eq_getElem hm]
    have hm2 : t % k < (enc (d[t / k]?.getD default)).length := by rw [hk]; exact Nat.mod_lt _ hk0
    simp [flatK, ht]
    rw [List.getElem?_eq_getElem hm2]
    rfl
  · rw [List.getElem?_eq_none (by simp [flatK]; omega), List.getElem?_eq_none (by rw [flatMap_len enc k hk]; omega)]

theorem putCells_take (cur : Array Value) (F : Array Value) (h : F.size ≤ cur.size) : (putCells id 0 F cur).toList.take F.size = F.toList := by
  apply List.ext_getElem?
  intro j
  by_cases hj : j < F.size
  · rw [List.getElem?_take_of_lt hj, Array.getElem?_toList, Array.getElem?_toList]
    simp [putCells, hj, show j < cur.size by omega]
  · rw [List.getElem?_take_eq_none (by omega), List.getElem?_eq_none (by simp; omega)]

theorem heap_put {w : World} {g n : Nat} {os : Array Obj} {cur : Array Value} {e : TypeId} {fr : Nat × Nat} (F : Array Value) (hb : w.heap[g]? = some (.cells cur e fr)) :
    (grow (putRow id (Sort.ahead w n) g 0 F) os).heap[g]? = some (.cells (putCells id 0 F cur) e fr) := by
  have hg : g < w.heap.size := (Array.getElem?_eq_some_iff.1 hb).1
  rw [heap_grow_old _ _ (by simpa using hg)]
  simp [putRow, mapBlock, Sort.ahead, Array.getElem?_modify, hb, onCells]

theorem grownBy_put {w : World} {g n : Nat} {os : Array Obj} (F : Array Value) : w.grownBy (grow (putRow id (Sort.ahead w n) g 0 F) os) (some g) := by
  refine ⟨rfl, rfl, rfl, by simp, fun k hk hne => ?_⟩
  rw [heap_grow_old _ _ (by simpa using hk)]
  have : g ≠ k := fun e => hne (by rw [e])
  simp [putRow, mapBlock, Sort.ahead, Array.getElem?_modify, this]

variable {P : Program} {ρ : Ren}

theorem sortFunc_own (L : SlLaysF0.n6 P ρ) (k e : Nat) (aE : ∀ w, (isAgg (ρ.t 24)).run P w = .ok true w) (zE : ∀ w, (Go.sizeOf (ρ.t 24)).run P w = .ok k w) (enc : α → List Value) (hk : ∀ x, (enc x).length = k) (h1 : ∀ x, ∀ v ∈ enc x, v.oneCell' = true)
    (cf : α → α → Int) (hO : SWO (ltOf cf)) (g : Nat) (eg : ∀ args w, (callFunc g args).run P w = .ok (.enter g args) w)
    (hcmp : ∀ (x y : α) (W : World), Calls P g #[.agg (enc x).toArray, .agg (enc y).toArray] W fun e w' => e = .returned (.int .i64 (cf x y)) ∧ ∃ q os', w' = grow (W.drewN q) os')
    (base : Nat) (v : Value) (d : List α) (w : World) (ho : w.ownsRow base e k v d.length (d.flatMap enc)) (hsz : d.length < 4611686018427387904) :
    Calls P (ρ.f 6) #[v, .func (.func g) #[] #[]] w fun en w' => en = .returned (.tuple #[]) ∧ ∃ d' : List α, d'.Perm d ∧ d'.Pairwise (fun x y => ltOf cf y x = false) ∧ w'.ownsRow base e k v d'.length (d'.flatMap enc) ∧ w.grownBy w' v.ownBlock := by
  obtain ⟨hlen, hv⟩ := ho
  rcases hv with ⟨rfl, h0⟩ | ⟨b, cap, cur, rfl, hbase, hb, hc1, hc2, hc3, hc4⟩
  · obtain rfl : d = [] := List.eq_nil_of_length_eq_zero h0
    refine (AnyF.slices_SortFunc_none L none 0 _ w).mono ?_
    rintro en w' ⟨rfl, rfl⟩
    exact ⟨rfl, [], List.Perm.refl _, List.Pairwise.nil, ⟨by simp, .inl ⟨rfl, rfl⟩⟩, ⟨rfl, rfl, rfl, Nat.le_refl _, fun _ _ _ => rfl⟩⟩
  · have hblk : b < w.heap.size := (Array.getElem?_eq_some_iff.1 hb).1
    have hH : HoldsK enc k w b 0 d.toArray := by
      intro j hj
      have hj' : j < d.length * k := by simpa using hj
      refine ⟨?_, by simp [World.frozen?, hb]⟩
      have h2 : (cur.toList.take (d.length * k))[j]? = ((flatK enc k d.toArray).toList)[j]? := by rw [hc4, flatK_list enc k hk]
      rw [List.getElem?_take_of_lt hj', Array.getElem?_toList, Array.getElem?_toList] at h2
      simp only [World.cell?, hb, Nat.zero_add, Option.isSome_none, Bool.false_eq_true, if_false]
      rw [h2, Array.getElem?_eq_getElem hj]
      show some _ = some ((flatK enc k d.toArray)[j]!)
      rw [getElem!_pos (flatK enc k d.toArray) j hj]
    have hs : (d.toArray : Array α).size = d.length := by simp
    have hcon := AnyQ.slices_SortFunc L k aE zE enc hk h1 cf hO g #[] b 0 cap d.toArray w eg (fun m os dk hdk x y => by simpa using hcmp x y _) hH hblk (by rw [hs]; exact hsz)
    rw [hs] at hcon
    refine hcon.mono ?_
    rintro en w' ⟨rfl, d', n, os, ⟨hz, _, hp⟩, hso, rfl⟩
    have hz' : d'.size = d.length := by rw [hz, hs]
    refine ⟨rfl, d'.toList, ?_, ?_, ?_, ?_⟩
    · have e1 : d'.extract 0 d.length = d' := by rw [← hz']; simp
      have e2 : (d.toArray).extract 0 d.length = d.toArray := by rw [← hs]; simp
      rw [e1, e2] at hp
      simpa using hp
    · rw [List.pairwise_iff_getElem]
      intro i j hi hj hij
      have hi' : i < d'.size := by simpa using hi
      have hj' : j < d'.size := by simpa using hj
      have := hso i j (Nat.zero_le _) hij (by omega)
      rw [getElem!_pos d' i hi', getElem!_pos d' j hj'] at this
      simpa using this
    · have hF : (flatK enc k d').size = d'.size * k := size_flatK enc k d'
      have hle : (flatK enc k d').size ≤ cur.size := by
        rw [hF, hz', hc3]
        exact Nat.mul_le_mul_right _ hc1
      have hfl : (flatK enc k d').toList = d'.toList.flatMap enc := by
        have := flatK_list enc k hk d'.toList
        simpa using this
      have hl' : d'.toList.length = d.length := by simpa using hz'
      rw [hl']
      refine ⟨by rw [flatMap_len enc k hk, hl'], .inr ⟨b, cap, putCells id 0 (flatK enc k d') cur, rfl, hbase, heap_put _ hb, hc1, hc2, by simp [putCells, hc3], ?_⟩⟩
      have h3 := putCells_take cur (flatK enc k d') hle
      rw [hF, hz', hfl] at h3
      exact h3
    · exact grownBy_put _
end
end Go.Proofs.YtdkfmbammdmohaaS

namespace Go.Proofs.YtdkfmbammdmohaaS
open Go Go.Sort Go.Proofs Go.Shelf Go.RowKit Go.Lib
abbrev vI (x : Int) : Value := .int .i64 x
theorem holdsI {w : World} {g : Nat} {cur : Array Value} {e : TypeId} {ss : List Int} (hb : w.heap[g]? = some (.cells cur e (0, 0))) (ht : cur.toList.take ss.length = ss.map vI) : Holds (Value.int .i64) w g 0 ss.toArray := by
  intro j hj
  have hj' : j < ss.length := by simpa using hj
  refine ⟨?_, by simp [World.frozen?, hb]⟩
  have h1 : (cur.toList.take ss.length)[j]? = (ss.map vI)[j]? := by rw [ht]
  rw [List.getElem?_take_of_lt hj'] at h1
  simp only [World.cell?, hb, Nat.zero_add]
  simp only [Option.isSome_none, Bool.false_eq_true, if_false]
  rw [← Array.getElem?_toList, h1]
  simp [hj', vI]
theorem heapI {w : World} {g n : Nat} {os : Array Obj} {cur : Array Value} {e : TypeId} {fr : Nat × Nat} (d : Array Int) (hb : w.heap[g]? = some (.cells cur e fr)) :
    (grow (putRow (Value.int .i64) (Sort.ahead w n) g 0 d) os).heap[g]? = some (.cells (putCells (Value.int .i64) 0 d cur) e fr) := by
  have hg : g < w.heap.size := (Array.getElem?_eq_some_iff.1 hb).1
  rw [heap_grow_old _ _ (by simpa using hg)]
  simp [putRow, mapBlock, Sort.ahead, Array.getElem?_modify, hb, onCells]
theorem grownByI {w : World} {g n : Nat} {os : Array Obj} (d : Array Int) : w.grownBy (grow (putRow (Value.int .i64) (Sort.ahead w n) g 0 d) os) (some g) := by
  refine ⟨rfl, rfl, rfl, by simp, fun k hk hne => ?_⟩
  rw [heap_grow_old _ _ (by simpa using hk)]
  have : g ≠ k := fun e => hne (by rw [e])
  simp [putRow, mapBlock, Sort.ahead, Array.getElem?_modify, this]
theorem takeI (cur : Array Value) (ts : List Int) (h : ts.length ≤ cur.size) : (putCells (Value.int .i64) 0 ts.toArray cur).toList.take ts.length = ts.map vI := by
  apply List.ext_getElem?
  intro j
  by_cases hj : j < ts.length
  · rw [List.getElem?_take_of_lt hj, Array.getElem?_toList]
    simp [putCells, hj, show j < cur.size by omega, vI]
  · rw [List.getElem?_take_eq_none (by omega), List.getElem?_eq_none (by simp; omega)]
theorem sortInt_own {P : Program} {ρ : Ren} (L : SlLaysM.n5 P ρ) (base e : Nat) (v : Value) (d : List Int) (w : World) (ho : w.ownsRow base e 1 v d.length (d.map vI)) (hd : 0 < d.length) (hsz : d.length < 4611686018427387904) :
    Calls P (ρ.f 5) #[v] w fun en w' => en = .returned (.tuple #[]) ∧ w'.ownsRow base e 1 v d.length ((d.mergeSort fun x y => decide (x ≤ y)).map vI) ∧ w.grownBy w' v.ownBlock := by
  rcases ho.2 with ⟨rfl, h0⟩ | ⟨b, cap, cur, rfl, hbase, hb, hc1, hc2, hc3, hc4⟩
  · omega
  · refine (AnyM.slices_Sort_int L b 0 cap d w (holdsI hb (by simpa using hc4)) (Array.getElem?_eq_some_iff.1 hb).1 hsz).mono ?_
    rintro en w' ⟨rfl, n, os, rfl⟩
    have hl : (d.mergeSort fun x y => decide (x ≤ y)).length = d.length := List.length_mergeSort d
    refine ⟨rfl, ⟨by simp [hl], .inr ⟨b, cap, _, rfl, hbase, heapI _ hb, hc1, hc2, by simp [putCells, hc3], ?_⟩⟩, grownByI _⟩
    have := takeI cur (d.mergeSort fun x y => decide (x ≤ y)) (by rw [hl]; omega)
    rw [hl] at this
    rw [Nat.mul_one]
    exact this
end Go.Proofs.YtdkfmbammdmohaaS

namespace Go.Proofs
open Go.Shelf
def Try.sortGap_ren : Go.Shelf.Ren := ⟨fun | 6 => 64 | 15 => 58 | 14 => 81 | 28 => 78 | 29 => 79 | 20 => 95 | 21 => 96 | 22 => 97 | 23 => 98 | 24 => 99 | 25 => 100 | 26 => 101 | 27 => 102 | 46 => 107 | 47 => 91 | 48 => 92 | 49 => 108 | 50 => 109 | 57 => 111 | n => n, fun | 22 => 46 | 24 => 52 | 25 => 120 | 3 => 3 | 39 => 111 | 0 => 0 | 53 => 133 | 55 => 135 | 4 => 4 | 46 => 126 | 45 => 125 | 50 => 130 | 5 => 5 | 9 => 9 | 66 => 143 | 70 => 147 | 76 => 156 | 77 => 157 | n => n, fun | n => n⟩
theorem Try.sortGap : Go.Proofs.SlLaysF0.n6 Try.prog Try.sortGap_ren := {
  mixed := by kernel_rfl
  f6 := ⟨Try.f64.name, by decide, Try.func64.trans (congrArg some (by kernel_rfl))⟩
  f14 := ⟨Try.f81.name, by decide, Try.func81.trans (congrArg some (by kernel_rfl))⟩
  f15 := Try.func58.trans (congrArg some (by kernel_rfl))
  f20 := ⟨Try.f95.name, by decide, Try.func95.trans (congrArg some (by kernel_rfl))⟩
  f21 := ⟨Try.f96.name, by decide, Try.func96.trans (congrArg some (by kernel_rfl))⟩
  f22 := ⟨Try.f97.name, by decide, Try.func97.trans (congrArg some (by kernel_rfl))⟩
  f23 := ⟨Try.f98.name, by decide, Try.func98.trans (congrArg some (by kernel_rfl))⟩
  f24 := ⟨Try.f99.name, by decide, Try.func99.trans (congrArg some (by kernel_rfl))⟩
  f25 := ⟨Try.f100.name, by decide, Try.func100.trans (congrArg some (by kernel_rfl))⟩
  f26 := ⟨Try.f101.name, by decide, Try.func101.trans (congrArg some (by kernel_rfl))⟩
  f27 := ⟨Try.f102.name, by decide, Try.func102.trans (congrArg some (by kernel_rfl))⟩
  f28 := Try.func78.trans (congrArg some (by kernel_rfl))
  f29 := Try.func79.trans (congrArg some (by kernel_rfl))
  f46 := ⟨Try.f107.name, by decide, Try.func107.trans (congrArg some (by kernel_rfl))⟩
  f47 := Try.func91.trans (congrArg some (by kernel_rfl))
  f48 := Try.func92.trans (congrArg some (by kernel_rfl))
  f49 := ⟨Try.f108.name, by decide, Try.func108.trans (congrArg some (by kernel_rfl))⟩
  f50 := ⟨Try.f109.name, by decide, Try.func109.trans (congrArg some (by kernel_rfl))⟩
  f57 := ⟨Try.f111.name, by decide, Try.func111.trans (congrArg some (by kernel_rfl))⟩
  t0 := Try.underlying0
  a0 := Try.isAgg0
  z0 := Try.sizeOf0
  v0 := Try.zeroValue0
  t3 := Try.underlying3
  a3 := Try.isAgg3
  z3 := Try.sizeOf3
  v3 := Try.zeroValue3
  t4 := Try.underlying4
  a4 := Try.isAgg4
  z4 := Try.sizeOf4
  v4 := Try.zeroValue4
  t5 := Try.underlying5
  a5 := Try.isAgg5
  z5 := Try.sizeOf5
  v5 := Try.zeroValue5
  t9 := Try.underlying9
  a9 := Try.isAgg9
  z9 := Try.sizeOf9
  v9 := Try.zeroValue9
  t22 := Try.underlying46
  a22 := Try.isAgg46
  z22 := Try.sizeOf46
  v22 := Try.zeroValue46
  t25 := Try.underlying120
  a25 := Try.isAgg120
  z25 := Try.sizeOf120
  v25 := Try.zeroValue120
  t39 := Try.underlying111
  a39 := Try.isAgg111
  z39 := Try.sizeOf111
  v39 := Try.zeroValue111
  t45 := Try.underlying125
  a45 := Try.isAgg125
  z45 := Try.sizeOf125
  v45 := Try.zeroValue125
  t46 := Try.underlying126
  a46 := Try.isAgg126
  z46 := Try.sizeOf126
  v46 := Try.zeroValue126
  t50 := Try.underlying130
  a50 := Try.isAgg130
  z50 := Try.sizeOf130
  v50 := Try.zeroValue130
  t53 := Try.underlying133
  a53 := Try.isAgg133
  z53 := Try.sizeOf133
  v53 := Try.zeroValue133
  t55 := Try.underlying135
  a55 := Try.isAgg135
  z55 := Try.sizeOf135
  v55 := Try.zeroValue135
  t66 := Try.underlying143
  a66 := Try.isAgg143
  z66 := Try.sizeOf143
  v66 := Try.zeroValue143
  t70 := Try.underlying147
  a70 := Try.isAgg147
  z70 := Try.sizeOf147
  v70 := Try.zeroValue147
  t76 := Try.underlying156
  a76 := Try.isAgg156
  z76 := Try.sizeOf156
  v76 := Try.zeroValue156
  t77 := Try.underlying157
  a77 := Try.isAgg157
  z77 := Try.sizeOf157
  v77 := Try.zeroValue157 }
def Try.sortStep_ren : Go.Shelf.Ren := ⟨fun | 6 => 44 | 15 => 58 | 14 => 66 | 28 => 78 | 29 => 79 | 20 => 82 | 21 => 83 | 22 => 84 | 23 => 85 | 24 => 86 | 25 => 87 | 26 => 88 | 27 => 89 | 46 => 103 | 47 => 91 | 48 => 92 | 49 => 104 | 50 => 105 | 57 => 110 | n => n, fun | 22 => 88 | 24 => 90 | 25 => 94 | 3 => 3 | 39 => 111 | 0 => 0 | 53 => 133 | 55 => 135 | 4 => 4 | 46 => 126 | 45 => 125 | 50 => 130 | 5 => 5 | 9 => 9 | 66 => 143 | 70 => 147 | 76 => 156 | 77 => 157 | n => n, fun | n => n⟩
theorem Try.sortStep : Go.Proofs.SlLaysF0.n6 Try.prog Try.sortStep_ren := {
  mixed := by kernel_rfl
  f6 := ⟨Try.f44.name, by decide, Try.func44.trans (congrArg some (by kernel_rfl))⟩
  f14 := ⟨Try.f66.name, by decide, Try.func66.trans (congrArg some (by kernel_rfl))⟩
  f15 := Try.func58.trans (congrArg some (by kernel_rfl))
  f20 := ⟨Try.f82.name, by decide, Try.func82.trans (congrArg some (by kernel_rfl))⟩
  f21 := ⟨Try.f83.name, by decide, Try.func83.trans (congrArg some (by kernel_rfl))⟩
  f22 := ⟨Try.f84.name, by decide, Try.func84.trans (congrArg some (by kernel_rfl))⟩
  f23 := ⟨Try.f85.name, by decide, Try.func85.trans (congrArg some (by kernel_rfl))⟩
  f24 := ⟨Try.f86.name, by decide, Try.func86.trans (congrArg some (by kernel_rfl))⟩
  f25 := ⟨Try.f87.name, by decide, Try.func87.trans (congrArg some (by kernel_rfl))⟩
  f26 := ⟨Try.f88.name, by decide, Try.func88.trans (congrArg some (by kernel_rfl))⟩
  f27 := ⟨Try.f89.name, by decide, Try.func89.trans (congrArg some (by kernel_rfl))⟩
  f28 := Try.func78.trans (congrArg some (by kernel_rfl))
  f29 := Try.func79.trans (congrArg some (by kernel_rfl))
  f46 := ⟨Try.f103.name, by decide, Try.func103.trans (congrArg some (by kernel_rfl))⟩
  f47 := Try.func91.trans (congrArg some (by kernel_rfl))
  f48 := Try.func92.trans (congrArg some (by kernel_rfl))
  f49 := ⟨Try.f104.name, by decide, Try.func104.trans (congrArg some (by kernel_rfl))⟩
  f50 := ⟨Try.f105.name, by decide, Try.func105.trans (congrArg some (by kernel_rfl))⟩
  f57 := ⟨Try.f110.name, by decide, Try.func110.trans (congrArg some (by kernel_rfl))⟩
  t0 := Try.underlying0
  a0 := Try.isAgg0
  z0 := Try.sizeOf0
  v0 := Try.zeroValue0
  t3 := Try.underlying3
  a3 := Try.isAgg3
  z3 := Try.sizeOf3
  v3 := Try.zeroValue3
  t4 := Try.underlying4
  a4 := Try.isAgg4
  z4 := Try.sizeOf4
  v4 := Try.zeroValue4
  t5 := Try.underlying5
  a5 := Try.isAgg5
  z5 := Try.sizeOf5
  v5 := Try.zeroValue5
  t9 := Try.underlying9
  a9 := Try.isAgg9
  z9 := Try.sizeOf9
  v9 := Try.zeroValue9
  t22 := Try.underlying88
  a22 := Try.isAgg88
  z22 := Try.sizeOf88
  v22 := Try.zeroValue88
  t25 := Try.underlying94
  a25 := Try.isAgg94
  z25 := Try.sizeOf94
  v25 := Try.zeroValue94
  t39 := Try.underlying111
  a39 := Try.isAgg111
  z39 := Try.sizeOf111
  v39 := Try.zeroValue111
  t45 := Try.underlying125
  a45 := Try.isAgg125
  z45 := Try.sizeOf125
  v45 := Try.zeroValue125
  t46 := Try.underlying126
  a46 := Try.isAgg126
  z46 := Try.sizeOf126
  v46 := Try.zeroValue126
  t50 := Try.underlying130
  a50 := Try.isAgg130
  z50 := Try.sizeOf130
  v50 := Try.zeroValue130
  t53 := Try.underlying133
  a53 := Try.isAgg133
  z53 := Try.sizeOf133
  v53 := Try.zeroValue133
  t55 := Try.underlying135
  a55 := Try.isAgg135
  z55 := Try.sizeOf135
  v55 := Try.zeroValue135
  t66 := Try.underlying143
  a66 := Try.isAgg143
  z66 := Try.sizeOf143
  v66 := Try.zeroValue143
  t70 := Try.underlying147
  a70 := Try.isAgg147
  z70 := Try.sizeOf147
  v70 := Try.zeroValue147
  t76 := Try.underlying156
  a76 := Try.isAgg156
  z76 := Try.sizeOf156
  v76 := Try.zeroValue156
  t77 := Try.underlying157
  a77 := Try.isAgg157
  z77 := Try.sizeOf157
  v77 := Try.zeroValue157 }
def Try.idxUse_ren : Go.Shelf.Ren := ⟨fun | 6 => 80 | n => n, fun | 22 => 22 | 23 => 73 | 25 => 116 | 3 => 3 | 0 => 0 | 4 => 4 | n => n, fun | n => n⟩
theorem Try.idxUse : Go.Proofs.SlLaysH0.n6 Try.prog Try.idxUse_ren := {
  mixed := by kernel_rfl
  f6 := ⟨Try.f80.name, by decide, Try.func80.trans (congrArg some (by kernel_rfl))⟩
  t0 := Try.underlying0
  a0 := Try.isAgg0
  z0 := Try.sizeOf0
  v0 := Try.zeroValue0
  t3 := Try.underlying3
  a3 := Try.isAgg3
  z3 := Try.sizeOf3
  v3 := Try.zeroValue3
  t4 := Try.underlying4
  a4 := Try.isAgg4
  z4 := Try.sizeOf4
  v4 := Try.zeroValue4
  t22 := Try.underlying22
  a22 := Try.isAgg22
  z22 := Try.sizeOf22
  v22 := Try.zeroValue22
  t25 := Try.underlying116
  a25 := Try.isAgg116
  z25 := Try.sizeOf116
  v25 := Try.zeroValue116 }
def Try.hasUse_ren : Go.Shelf.Ren := ⟨fun | 8 => 62 | 6 => 80 | n => n, fun | 22 => 22 | 23 => 73 | 25 => 116 | 4 => 4 | 3 => 3 | 0 => 0 | n => n, fun | n => n⟩
theorem Try.hasUse : Go.Proofs.SlLaysH0.n8 Try.prog Try.hasUse_ren := {
  mixed := by kernel_rfl
  f6 := ⟨Try.f80.name, by decide, Try.func80.trans (congrArg some (by kernel_rfl))⟩
  f8 := ⟨Try.f62.name, by decide, Try.func62.trans (congrArg some (by kernel_rfl))⟩
  t0 := Try.underlying0
  a0 := Try.isAgg0
  z0 := Try.sizeOf0
  v0 := Try.zeroValue0
  t3 := Try.underlying3
  a3 := Try.isAgg3
  z3 := Try.sizeOf3
  v3 := Try.zeroValue3
  t4 := Try.underlying4
  a4 := Try.isAgg4
  z4 := Try.sizeOf4
  v4 := Try.zeroValue4
  t22 := Try.underlying22
  a22 := Try.isAgg22
  z22 := Try.sizeOf22
  v22 := Try.zeroValue22
  t25 := Try.underlying116
  a25 := Try.isAgg116
  z25 := Try.sizeOf116
  v25 := Try.zeroValue116 }
def Try.idxWait_ren : Go.Shelf.Ren := ⟨fun | 6 => 48 | n => n, fun | 22 => 95 | 23 => 98 | 25 => 99 | 3 => 3 | 0 => 0 | 4 => 4 | n => n, fun | n => n⟩
theorem Try.idxWait : Go.Proofs.SlLaysH0.n6 Try.prog Try.idxWait_ren := {
  mixed := by kernel_rfl
  f6 := ⟨Try.f48.name, by decide, Try.func48.trans (congrArg some (by kernel_rfl))⟩
  t0 := Try.underlying0
  a0 := Try.isAgg0
  z0 := Try.sizeOf0
  v0 := Try.zeroValue0
  t3 := Try.underlying3
  a3 := Try.isAgg3
  z3 := Try.sizeOf3
  v3 := Try.zeroValue3
  t4 := Try.underlying4
  a4 := Try.isAgg4
  z4 := Try.sizeOf4
  v4 := Try.zeroValue4
  t22 := Try.underlying95
  a22 := Try.isAgg95
  z22 := Try.sizeOf95
  v22 := Try.zeroValue95
  t25 := Try.underlying99
  a25 := Try.isAgg99
  z25 := Try.sizeOf99
  v25 := Try.zeroValue99 }
end Go.Proofs

namespace Go.Proofs
open Go.Shelf
def Try.sortI64_ren : Go.Shelf.Ren := ⟨fun | 5 => 33 | 8 => 58 | 7 => 57 | 19 => 78 | 20 => 79 | 10 => 69 | 11 => 70 | 12 => 71 | 13 => 72 | 14 => 73 | 15 => 74 | 16 => 75 | 17 => 76 | 18 => 77 | 30 => 90 | 31 => 91 | 32 => 92 | 33 => 93 | 34 => 94 | 35 => 67 | 40 => 106 | n => n, fun | 23 => 75 | 25 => 2 | 3 => 3 | 32 => 111 | 22 => 75 | 0 => 0 | 44 => 133 | 46 => 135 | 4 => 4 | 36 => 126 | 35 => 125 | 41 => 130 | 5 => 5 | 9 => 9 | 53 => 143 | 57 => 147 | 63 => 156 | 64 => 157 | n => n, fun | n => n⟩
theorem Try.sortI64 : Go.Proofs.SlLaysM.n5 Try.prog Try.sortI64_ren := {
  mixed := by kernel_rfl
  f5 := ⟨Try.f33.name, by decide, Try.func33.trans (congrArg some (by kernel_rfl))⟩
  f7 := ⟨Try.f57.name, by decide, Try.func57.trans (congrArg some (by kernel_rfl))⟩
  f8 := Try.func58.trans (congrArg some (by kernel_rfl))
  f10 := ⟨Try.f69.name, by decide, Try.func69.trans (congrArg some (by kernel_rfl))⟩
  f11 := ⟨Try.f70.name, by decide, Try.func70.trans (congrArg some (by kernel_rfl))⟩
  f12 := ⟨Try.f71.name, by decide, Try.func71.trans (congrArg some (by kernel_rfl))⟩
  f13 := ⟨Try.f72.name, by decide, Try.func72.trans (congrArg some (by kernel_rfl))⟩
  f14 := ⟨Try.f73.name, by decide, Try.func73.trans (congrArg some (by kernel_rfl))⟩
  f15 := ⟨Try.f74.name, by decide, Try.func74.trans (congrArg some (by kernel_rfl))⟩
  f16 := ⟨Try.f75.name, by decide, Try.func75.trans (congrArg some (by kernel_rfl))⟩
  f17 := ⟨Try.f76.name, by decide, Try.func76.trans (congrArg some (by kernel_rfl))⟩
  f18 := ⟨Try.f77.name, by decide, Try.func77.trans (congrArg some (by kernel_rfl))⟩
  f19 := Try.func78.trans (congrArg some (by kernel_rfl))
  f20 := Try.func79.trans (congrArg some (by kernel_rfl))
  f30 := ⟨Try.f90.name, by decide, Try.func90.trans (congrArg some (by kernel_rfl))⟩
  f31 := Try.func91.trans (congrArg some (by kernel_rfl))
  f32 := Try.func92.trans (congrArg some (by kernel_rfl))
  f33 := ⟨Try.f93.name, by decide, Try.func93.trans (congrArg some (by kernel_rfl))⟩
  f34 := ⟨Try.f94.name, by decide, Try.func94.trans (congrArg some (by kernel_rfl))⟩
  f35 := ⟨Try.f67.name, by decide, Try.func67.trans (congrArg some (by kernel_rfl))⟩
  f40 := ⟨Try.f106.name, by decide, Try.func106.trans (congrArg some (by kernel_rfl))⟩
  t0 := Try.underlying0
  a0 := Try.isAgg0
  z0 := Try.sizeOf0
  v0 := Try.zeroValue0
  t3 := Try.underlying3
  a3 := Try.isAgg3
  z3 := Try.sizeOf3
  v3 := Try.zeroValue3
  t4 := Try.underlying4
  a4 := Try.isAgg4
  z4 := Try.sizeOf4
  v4 := Try.zeroValue4
  t5 := Try.underlying5
  a5 := Try.isAgg5
  z5 := Try.sizeOf5
  v5 := Try.zeroValue5
  t9 := Try.underlying9
  a9 := Try.isAgg9
  z9 := Try.sizeOf9
  v9 := Try.zeroValue9
  t22 := Try.underlying75
  a22 := Try.isAgg75
  z22 := Try.sizeOf75
  v22 := Try.zeroValue75
  t23 := Try.underlying75
  a23 := Try.isAgg75
  z23 := Try.sizeOf75
  v23 := Try.zeroValue75
  t25 := Try.underlying2
  a25 := Try.isAgg2
  z25 := Try.sizeOf2
  v25 := Try.zeroValue2
  t32 := Try.underlying111
  a32 := Try.isAgg111
  z32 := Try.sizeOf111
  v32 := Try.zeroValue111
  t35 := Try.underlying125
  a35 := Try.isAgg125
  z35 := Try.sizeOf125
  v35 := Try.zeroValue125
  t36 := Try.underlying126
  a36 := Try.isAgg126
  z36 := Try.sizeOf126
  v36 := Try.zeroValue126
  t41 := Try.underlying130
  a41 := Try.isAgg130
  z41 := Try.sizeOf130
  v41 := Try.zeroValue130
  t44 := Try.underlying133
  a44 := Try.isAgg133
  z44 := Try.sizeOf133
  v44 := Try.zeroValue133
  t46 := Try.underlying135
  a46 := Try.isAgg135
  z46 := Try.sizeOf135
  v46 := Try.zeroValue135
  t53 := Try.underlying143
  a53 := Try.isAgg143
  z53 := Try.sizeOf143
  v53 := Try.zeroValue143
  t57 := Try.underlying147
  a57 := Try.isAgg147
  z57 := Try.sizeOf147
  v57 := Try.zeroValue147
  t63 := Try.underlying156
  a63 := Try.isAgg156
  z63 := Try.sizeOf156
  v63 := Try.zeroValue156
  t64 := Try.underlying157
  a64 := Try.isAgg157
  z64 := Try.sizeOf157
  v64 := Try.zeroValue157 }
end Go.Proofs
