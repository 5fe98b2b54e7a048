/- Maps from int to values of one cell, as a function from keys to values: look-up, store, delete, len, range. -/
import Derived.Maps.RangeWalk
import Derived.Maps.OwnSet
namespace Go.Proofs.YtdkfmbammdmohaaM
open Go Go.Maps
set_option linter.unusedVariables false

/-- How the elements of a map stand as values, and how they read. -/
structure El (β : Type) where
  enc : β → Value
  dat : β → DataW Unit
  R : Value → Option (DataW Unit × List MemPlace)
  put : ∀ y, R (enc y) = some (dat y, [])
  inv : ∀ v z, R v = some z → ∃ y, v = enc y ∧ z.1 = dat y
  inj : ∀ y y', dat y = dat y' → y = y'

/-- Elements that are int64s. -/
def elInt : El Int where
  enc n := .int .i64 n
  dat n := .lit (.int .i64 n)
  R v := match v with | .int .i64 n => some (.lit (.int .i64 n), []) | _ => none
  put _ := rfl
  inv v z h := by
    split at h
    · injection h with h; subst h; exact ⟨_, rfl, rfl⟩
    · cases h
  inj y y' h := by injection h with h; injection h

/-- Elements that are pointers to the head of a block. -/
def elPtr : El Nat where
  enc b := .pointer (some ⟨b, 0, none⟩)
  dat b := .lit (.int .i64 b)
  R v := match v with | .pointer (some ⟨b, 0, none⟩) => some (.lit (.int .i64 (b : Int)), []) | _ => none
  put _ := rfl
  inv v z h := by
    split at h
    · injection h with h; subst h; exact ⟨_, rfl, rfl⟩
    · cases h
  inj y y' h := by injection h with h; injection h with _ h; exact Int.ofNat.inj h

abbrev wfk (p : Int) : Prop := (Lit.int .i64 p).wf = true

section
variable {β : Type} {P : Program} {kt : TypeId}

/-- Block b is a map that holds just what f says; cnt keys; at most N entries were ever stored. -/
def IM (P : Program) (kt : TypeId) (E : El β) (w : World) (b : Nat) (f : Int → Option β) (cnt N : Nat) : Prop :=
  ∃ n D, w.ownsMap P kt E.R b n D ∧ n ≤ N ∧ Maps.size D = cnt ∧ (∀ p, wfk p → Maps.has D (.int .i64 p) = (f p).isSome) ∧ (∀ p y, wfk p → f p = some y → ∀ z, D.atKey (.int .i64 p) z = E.dat y) ∧ (∀ p, ¬ wfk p → f p = none)

variable {E : El β} {w w' : World} {b : Nat} {f : Int → Option β} {cnt N : Nat}

theorem keyLit {p : Int} : WideAt.IsKeyLit (.int .i64 p) := by constructor

theorem IM.made (P : Program) (kt : TypeId) (E : El β) (w : World) : IM P kt E (w.alloc (.map #[] 0)) w.heap.size (fun _ => none) 0 0 :=
  ⟨0, .map [], World.ownsMap_made _ _ _ _, Nat.le_refl _, rfl, fun _ _ => rfl, fun _ _ _ h => by simp at h, fun _ _ => rfl⟩

theorem IM.lt (h : IM P kt E w b f cnt N) : b < w.heap.size := by obtain ⟨n, D, ho, _⟩ := h; exact ho.lt

theorem IM.kept {row : Option Nat} (h : IM P kt E w b f cnt N) (hg : w.grownBy w' row) (hne : some b ≠ row) : IM P kt E w' b f cnt N := by
  obtain ⟨n, D, ho, r⟩ := h
  exact ⟨n, D, ho.kept hg hne, r⟩

theorem IM.block (h : IM P kt E w b f cnt N) (hb : w'.heap[b]? = w.heap[b]?) : IM P kt E w' b f cnt N := by
  obtain ⟨n, D, ⟨es, cl, h1, h2⟩, r⟩ := h
  exact ⟨n, D, ⟨es, cl, hb.trans h1, h2⟩, r⟩

theorem IM.isMap (h : IM P kt E w b f cnt N) : ∃ es cl, w.heap[b]? = some (.map es cl) := by
  obtain ⟨n, D, ⟨es, cl, h1, h2⟩, r⟩ := h
  exact ⟨es, cl, h1⟩

theorem IM.ne (h : IM P kt E w b f cnt N) {g : Nat} {c : Array Value} {t : TypeId} {fr : Nat × Nat} (hg : w.heap[g]? = some (.cells c t fr)) : g ≠ b := by
  rintro rfl
  obtain ⟨es, cl, h1⟩ := h.isMap
  rw [h1] at hg
  injection hg with hg
  cases hg

theorem IM.look (h : IM P kt E w b f cnt N) (hk : P.underlying kt = some (.int .i64)) {t e : TypeId} (ht : P.underlying t = some (.map kt e)) {z : β} (hz : (zeroValue e).run P w = .ok (E.enc z) w) {p : Int} (hp : wfk p) :
    (Instr.lookup t (.map (some b)) (.int .i64 p) true).run P w = .ok (.tuple #[E.enc ((f p).getD z), .bool (f p).isSome]) w := by
  obtain ⟨n, D, ho, _, _, hh, ha, _⟩ := h
  obtain ⟨v, ps, hrun, hv⟩ := ho.look_ok (int_keyed hk) ht hz (E.put z) (keyOf_int_mk hk hp)
  rw [hrun, hh p hp]
  have hv' : v = E.enc ((f p).getD z) := by
    obtain ⟨y, rfl, hy⟩ := E.inv _ _ hv
    congr 1
    apply E.inj
    rw [← hy]
    cases hf : f p with
    | some y' => exact ha p y' hp hf _
    | none => exact Maps.atKey_of_not_has (by rw [hh p hp, hf]; rfl) _
  rw [hv']

/-- the look-up without ok -/
theorem IM.look1 (h : IM P kt E w b f cnt N) (hk : P.underlying kt = some (.int .i64)) {t e : TypeId} (ht : P.underlying t = some (.map kt e)) {z : β} (hz : (zeroValue e).run P w = .ok (E.enc z) w) {p : Int} (hp : wfk p) :
    (Instr.lookup t (.map (some b)) (.int .i64 p) false).run P w = .ok (E.enc ((f p).getD z)) w := by
  obtain ⟨n, D, ho, _, _, hh, ha, _⟩ := h
  obtain ⟨es, clock, hb, F, _, rfl⟩ := ho
  rcases Maps.fit_look false (int_keyed hk) ht hz hb F (keyOf_int_mk hk hp) with ⟨hrun, _, hat⟩ | ⟨e0, y, _, _, hrun, hRv, hat, _⟩
  · rw [hrun]
    have : f p = none := by
      have h1 := hh p hp
      rw [Maps.has_false_of_atKey hat] at h1
      cases hf : f p with
      | none => rfl
      | some y => rw [hf] at h1; cases h1
    rw [this]
    rfl
  · rw [hrun]
    have h1 := hh p hp
    rw [Maps.has_true_of_atKey hat] at h1
    cases hf : f p with
    | none => rw [hf] at h1; cases h1
    | some y' =>
      obtain ⟨y2, e2, hy2⟩ := E.inv _ _ hRv
      have h3 := ha p y' hp hf (.lit (.bool true))
      rw [hat] at h3
      simp only [Bool.false_eq_true, if_false]
      rw [e2]
      congr 2
      exact E.inj _ _ (by rw [← hy2, h3]; rfl)

theorem IM.len (h : IM P kt E w b f cnt N) {t e : TypeId} (ht : P.underlying t = some (.map kt e)) (ty : TypeId) : (Builtin.len_ #[t] ty #[.map (some b)]).run P w = .ok (.int .i64 cnt) w := by
  obtain ⟨n, D, ho, _, hc, _⟩ := h
  rw [ho.len ht ty, hc]

theorem IM.store (h : IM P kt E w b f cnt N) (hk : P.underlying kt = some (.int .i64)) {t e : TypeId} (ht : P.underlying t = some (.map kt e)) (hn : N < maxLen) {p : Int} (hp : wfk p) (y : β) :
    ∃ w', (Instr.mapUpdate t (.map (some b)) (.int .i64 p) (E.enc y)).run P w = .ok () w' ∧ IM P kt E w' b (fun q => if q = p then some y else f q) (if (f p).isSome then cnt else cnt + 1) (N + 1) ∧ w.mapTurned w' b := by
  obtain ⟨n, D, ho, hnN, hc, hh, ha, hw⟩ := h
  have hti := ho.tidy (int_keyed hk)
  obtain ⟨w', hrun, ho', hm⟩ := ho.store (int_keyed hk) ht (Nat.lt_of_le_of_lt hnN hn) (keyOf_int_mk hk hp) (E.put y)
  refine ⟨w', hrun, ⟨n + 1, _, ho', by omega, ?_, fun q hq => ?_, fun q y' hq hy z => ?_, fun q hq => ?_⟩, hm⟩
  · rw [Maps.size_put hti, hh p hp, hc]
  · by_cases e1 : q = p
    · subst e1
      rw [Maps.has_put_same hti.isMap keyLit]
      simp
    · rw [Maps.has_put_other (by intro h; injection h with _ h; exact e1 h), hh q hq]
      simp [e1]
  · by_cases e1 : q = p
    · subst e1
      simp at hy
      subst hy
      exact Maps.atKey_put_same hti.isMap keyLit _ _
    · simp only [e1, if_false] at hy
      rw [Maps.atKey_put_other (by intro h; injection h with _ h; exact e1 h)]
      exact ha q y' hq hy z
  · by_cases e1 : q = p
    · subst e1; exact absurd hp hq
    · simp [e1, hw q hq]

theorem IM.drop (h : IM P kt E w b f cnt N) (hk : P.underlying kt = some (.int .i64)) {t e : TypeId} (ht : P.underlying t = some (.map kt e)) {p : Int} (hp : wfk p) (ty : TypeId) :
    ∃ w', (Builtin.delete_ #[t, kt] ty #[.map (some b), .int .i64 p]).run P w = .ok (.tuple #[]) w' ∧ IM P kt E w' b (fun q => if q = p then none else f q) (if (f p).isSome then cnt - 1 else cnt) N ∧ w.mapTurned w' b := by
  obtain ⟨n, D, ho, hnN, hc, hh, ha, hw⟩ := h
  have hti := ho.tidy (int_keyed hk)
  obtain ⟨w', hrun, ho', hm⟩ := ho.drop (int_keyed hk) ht (keyOf_int_mk hk hp) ty
  refine ⟨w', hrun, ⟨n, _, ho', hnN, ?_, fun q hq => ?_, fun q y' hq hy z => ?_, fun q hq => ?_⟩, hm⟩
  · have := Maps.size_del (k := .int .i64 p) hti
    rw [hh p hp, hc] at this
    cases hf : (f p).isSome <;> rw [hf] at this <;> simp at this ⊢ <;> omega
  · by_cases e1 : q = p
    · subst e1
      rw [Maps.has_del_same]
      simp
    · rw [Maps.has_del_other (by intro h; injection h with _ h; exact e1 h), hh q hq]
      simp [e1]
  · by_cases e1 : q = p
    · subst e1
      simp at hy
    · simp only [e1, if_false] at hy
      rw [Maps.atKey_del_other (by intro h; injection h with _ h; exact e1 h)]
      exact ha q y' hq hy z
  · by_cases e1 : q = p
    · subst e1; simp
    · simp [e1, hw q hq]

/-- A range under way: block r is an iterator over the map b; the keys of 'left' are still to come, cnt of them. -/
def IR (P : Program) (kt : TypeId) (E : El β) (w : World) (b r : Nat) (f : Int → Option β) (left : Int → Bool) (cnt : Nat) : Prop :=
  ∃ n D L, w.ranges P kt E.R b r n D L cnt ∧ (∀ p, wfk p → Maps.has D (.int .i64 p) = (f p).isSome) ∧ (∀ p y, wfk p → f p = some y → ∀ z, D.atKey (.int .i64 p) z = E.dat y) ∧ (∀ p, ¬ wfk p → f p = none) ∧ (∀ p, wfk p → L (.int .i64 p) = left p) ∧ (∀ p, ¬ wfk p → left p = false)

theorem IM.range (h : IM P kt E w b f cnt N) (hk : P.underlying kt = some (.int .i64)) {t e : TypeId} (ht : P.underlying t = some (.map kt e)) :
    ∃ w', (Instr.range t (.map (some b))).run P w = .ok (.pointer (some ⟨w.heap.size, 0, none⟩)) w' ∧ IR P kt E w' b w.heap.size f (fun p => (f p).isSome) cnt ∧ w.grownBy w' none ∧ w'.heap.size = w.heap.size + 1 := by
  obtain ⟨n, D, ho, hnN, hc, hh, ha, hw⟩ := h
  obtain ⟨w', hrun, hr, hg, hs⟩ := ho.range (int_keyed hk) ht
  rw [hc] at hr
  exact ⟨w', hrun, ⟨n, D, _, hr, hh, ha, hw, hh, fun p hp => by simp [hw p hp]⟩, hg, hs⟩

theorem IR.next {r : Nat} {left : Int → Bool} (h : IR P kt E w b r f left cnt) (hk : P.underlying kt = some (.int .i64)) (ty : TypeId) :
    (cnt = 0 ∧ (∀ p, left p = false) ∧ (Instr.next (.pointer (some ⟨r, 0, none⟩)) false ty).run P w = .ok (.tuple #[.bool false]) w) ∨
    ∃ p y w' cnt', left p = true ∧ f p = some y ∧ (Instr.next (.pointer (some ⟨r, 0, none⟩)) false ty).run P w = .ok (.tuple #[.bool true, .int .i64 p, E.enc y]) w' ∧
      IR P kt E w' b r f (fun q => left q && !(q == p)) cnt' ∧ cnt' < cnt ∧ w.grownBy w' (some r) ∧ w'.heap.size = w.heap.size ∧ (Instr.entry (.pointer (some ⟨r, 0, none⟩))).run P w' = .ok (.tuple #[.int .i64 p, E.enc y]) w' := by
  obtain ⟨n, D, L, hr, hh, ha, hw, hL, hL0⟩ := h
  rcases hr.next (int_keyed hk) ty with ⟨h0, hl, hrun⟩ | ⟨key, v, kl, y, w', cnt', hkey, hl, hRv, hat, hrun, hr', hlt, hg, hs, hen⟩
  · refine Or.inl ⟨h0, fun p => ?_, hrun⟩
    by_cases hp : wfk p
    · rw [← hL p hp]; exact hl _
    · exact hL0 p hp
  · obtain ⟨p, rfl, rfl, hp⟩ := Maps.keyOf_int_inv hk hkey
    have h1 := hh p hp
    rw [Maps.has_true_of_atKey hat] at h1
    cases hf : f p with
    | none => rw [hf] at h1; cases h1
    | some y' =>
      obtain ⟨y2, rfl, hy2⟩ := E.inv _ _ hRv
      have h3 := ha p y' hp hf (.lit (.bool true))
      rw [hat] at h3
      obtain rfl : y2 = y' := E.inj _ _ (by rw [← hy2, h3])
      refine Or.inr ⟨p, y2, w', cnt', by rw [← hL p hp]; exact hl, hf, hrun, ⟨n, D, _, hr', hh, ha, hw, fun q hq => ?_, fun q hq => ?_⟩, hlt, hg, hs, hen⟩
      · show (L (.int .i64 q) && !Lit.sameKey (.int .i64 q) (.int .i64 p)) = _
        rw [hL q hq]
        by_cases e1 : q = p
        · subst e1
          rw [WideAt.sameKey_self keyLit]
          simp
        · rw [Maps.sameKey_ne (by intro h; injection h with _ h; exact e1 h)]
          simp [e1]
      · simp [hL0 q hq]

theorem IR.left_eq {r : Nat} {left : Int → Bool} (h : IR P kt E w b r f left cnt) : w.rangeLeft b r = cnt := by
  obtain ⟨n, D, L, hr, _⟩ := h
  exact hr.left_eq
theorem IR.kept {row : Option Nat} {r : Nat} {left : Int → Bool} (h : IR P kt E w b r f left cnt) (hg : w.grownBy w' row) (hb : some b ≠ row) (hr' : some r ≠ row) : IR P kt E w' b r f left cnt := by
  obtain ⟨n, D, L, hr, q⟩ := h
  exact ⟨n, D, L, hr.kept hg hb hr', q⟩
end
end Go.Proofs.YtdkfmbammdmohaaM
