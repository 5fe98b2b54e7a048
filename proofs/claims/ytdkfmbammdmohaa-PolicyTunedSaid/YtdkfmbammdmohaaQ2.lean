/- What the reference's Check says is what open says. -/
import Derived.Test.YtdkfmbammdmohaaG0
import Derived.Test.YtdkfmbammdmohaaQ1
namespace Go.Proofs.Ytdkfmbammdmohaa.PPolicyCosts
open Go.RowKit Go.Proofs.YtdkfmbammdmohaaW.PrintWords Go.Proofs.YtdkfmbammdmohaaW.PrintLast Go.Proofs.YtdkfmbammdmohaaW.PrintMore
open Go.Proofs.YtdkfmbammdmohaaM Go.Proofs.YtdkfmbammdmohaaS
set_option linter.unusedVariables false
set_option linter.unusedSimpArgs false

theorem rd73_is (l : List S73) (k : Nat) (h : k < l.length) : rd_T73 l (k : Int) = l[k] := by
  unfold rd_T73
  rw [Int.toNat_natCast, List.getD_eq_getElem?_getD, List.getElem?_eq_getElem h]
  rfl
theorem rd73_old (l : List S73) (u : S73) (k : Nat) (h : k < l.length) : rd_T73 (l ++ [u]) (k : Int) = rd_T73 l (k : Int) := by
  rw [rd73_is _ _ (by simp; omega), rd73_is _ _ h, List.getElem_append_left h]
theorem rd73_new (l : List S73) (u : S73) : rd_T73 (l ++ [u]) (l.length : Int) = u := by
  rw [rd73_is _ _ (by simp)]
  simp
def InvA (l : List S73) : Prop := ∀ k : Nat, k < l.length → ∃ t, lastOf l (rd_T73 l (k : Int)).f0 = some t ∧ (rd_T73 l (k : Int)).f2 ≤ t
def InvB (l : List S73) : Prop := ∀ p t, lastOf l p = some t → ∃ k : Nat, k < l.length ∧ (rd_T73 l (k : Int)).f0 = p ∧ (rd_T73 l (k : Int)).f2 = t
theorem inv_b (l : List S73) : InvB l := by
  refine snoc_ind (P := InvB) ?_ ?_ l
  · intro p t h; simp [lastOf] at h
  · intro l u ih p t h
    rw [lastOf_snoc] at h
    by_cases hp : u.f0 = p
    · rw [if_pos hp] at h
      injection h with h
      exact ⟨l.length, by simp, by rw [rd73_new]; exact hp, by rw [rd73_new]; exact h⟩
    · rw [if_neg hp] at h
      obtain ⟨k, hk, h1, h2⟩ := ih p t h
      exact ⟨k, by simp; omega, by rw [rd73_old l u k hk]; exact h1, by rw [rd73_old l u k hk]; exact h2⟩
theorem ordAt_old (l : List S73) (u : S73) (i : Nat) (h : i < l.length) : OrdAt (l ++ [u]) i ↔ OrdAt l i := by
  unfold OrdAt
  rw [rd73_old l u i h]
  have e : 0 < i → rd_T73 (l ++ [u]) ((i : Int) - 1) = rd_T73 l ((i : Int) - 1) := by
    intro h0
    have e1 : ((i : Int) - 1) = ((i - 1 : Nat) : Int) := by omega
    rw [e1, rd73_old l u _ (by omega)]
  constructor
  · rintro ⟨a, b⟩
    refine ⟨fun h0 => ?_, fun k hk => ?_⟩
    · have := a h0; rw [e h0] at this; exact this
    · have := b k hk; rw [rd73_old l u k (by omega)] at this; exact this
  · rintro ⟨a, b⟩
    refine ⟨fun h0 => ?_, fun k hk => ?_⟩
    · rw [e h0]; exact a h0
    · rw [rd73_old l u k (by omega)]; exact b k hk
theorem ordAt_new (l : List S73) (u : S73) (hA : InvA l) : OrdAt (l ++ [u]) l.length ↔ okAt l u = true := by
  have hB := inv_b l
  unfold OrdAt okAt
  rw [rd73_new, Bool.and_eq_true]
  have h1 : (0 < l.length → (rd_T73 (l ++ [u]) ((l.length : Int) - 1)).f1 < u.f1 ∨ ((rd_T73 (l ++ [u]) ((l.length : Int) - 1)).f1 = u.f1 ∧ (rd_T73 (l ++ [u]) ((l.length : Int) - 1)).f0 < u.f0)) ↔ (match l.getLast? with | some a => after a u | none => true) = true := by
    rcases Nat.eq_zero_or_pos l.length with h0 | h0
    · obtain rfl := List.eq_nil_of_length_eq_zero h0
      simp
    · have e1 : ((l.length : Int) - 1) = ((l.length - 1 : Nat) : Int) := by omega
      rw [e1, rd73_old l u _ (by omega), rd73_is l _ (by omega), List.getLast?_eq_getElem?, List.getElem?_eq_getElem (by omega)]
      simp [after, h0]
  have h2 : (∀ k : Nat, k < l.length → (rd_T73 (l ++ [u]) (k : Int)).f0 = u.f0 → (rd_T73 (l ++ [u]) (k : Int)).f2 < u.f1) ↔ (match lastOf l u.f0 with | some t => decide (t < u.f1) | none => true) = true := by
    cases hlo : lastOf l u.f0 with
    | none =>
      simp only [iff_true]
      intro k hk h
      rw [rd73_old l u k hk] at h ⊢
      obtain ⟨t, ht, _⟩ := hA k hk
      rw [h, hlo] at ht
      cases ht
    | some t =>
      simp only [decide_eq_true_eq]
      constructor
      · intro h
        obtain ⟨k, hk, e1, e2⟩ := hB _ _ hlo
        have := h k hk (by rw [rd73_old l u k hk]; exact e1)
        rw [rd73_old l u k hk, e2] at this
        exact this
      · intro h k hk h3
        rw [rd73_old l u k hk] at h3 ⊢
        obtain ⟨t', ht, hle⟩ := hA k hk
        rw [h3, hlo] at ht
        injection ht with ht
        omega
  exact and_congr h1 h2
theorem ord_both (l : List S73) : l.any wrongU = false → ((okTrace l = true ↔ ∀ i : Nat, i < l.length → OrdAt l i) ∧ (okTrace l = true → InvA l)) := by
  refine snoc_ind (P := fun l => l.any wrongU = false → ((okTrace l = true ↔ ∀ i : Nat, i < l.length → OrdAt l i) ∧ (okTrace l = true → InvA l))) ?_ ?_ l
  · intro _
    exact ⟨⟨fun _ i hi => by simp at hi, fun _ => rfl⟩, fun _ k hk => by simp at hk⟩
  · intro l u ih ha
    rw [List.any_append, Bool.or_eq_false_iff] at ha
    obtain ⟨i1, i2⟩ := ih ha.1
    have hu := right_bd (u := u) (by simpa using ha.2)
    rw [okTrace_snoc, Bool.and_eq_true]
    constructor
    · constructor
      · rintro ⟨h1, h2⟩ i hi
        by_cases hl : i < l.length
        · exact (ordAt_old l u i hl).2 (i1.1 h1 i hl)
        · have : i = l.length := by simp at hi; omega
          subst this
          exact (ordAt_new l u (i2 h1)).2 h2
      · intro h
        have h1 : okTrace l = true := i1.2 (fun i hi => (ordAt_old l u i hi).1 (h i (by simp; omega)))
        exact ⟨h1, (ordAt_new l u (i2 h1)).1 (h l.length (by simp))⟩
    · rintro ⟨h1, h2⟩ k hk
      by_cases hl : k < l.length
      · rw [rd73_old l u k hl, lastOf_snoc]
        obtain ⟨t, ht, hle⟩ := i2 h1 k hl
        by_cases hp : u.f0 = (rd_T73 l (k : Int)).f0
        · rw [if_pos hp]
          refine ⟨_, rfl, ?_⟩
          unfold okAt at h2
          rw [hp, ht, Bool.and_eq_true] at h2
          have := h2.2
          simp only [decide_eq_true_eq] at this
          omega
        · rw [if_neg hp]
          exact ⟨t, ht, hle⟩
      · have : k = l.length := by simp at hk; omega
        subst this
        rw [rd73_new, lastOf_snoc, if_pos rfl]
        exact ⟨_, rfl, Int.le_refl _⟩
theorem any_wrong (l : List S73) : (∀ k : Nat, k < l.length → wrongU (rd_T73 l (k : Int)) = false) ↔ l.any wrongU = false := by
  rw [List.any_eq_false]
  constructor
  · intro h x hx
    obtain ⟨k, hk, rfl⟩ := List.getElem_of_mem hx
    have := h k hk
    rw [rd73_is l k hk] at this
    simp [this]
  · intro h k hk
    rw [rd73_is l k hk]
    have := h l[k] (List.getElem_mem hk)
    simpa using this
/-- The reference's Check says what open says. -/
theorem check_is (A : Option Addr) (c : Nat) (l : List S73) (w : World) (hC : Kd.C k73 w A l.length l) (hc : l.length ≤ c) :
    Calls Try.prog 12 #[.slice A l.length c] w fun e w' => e = .returned (.int .i64 (chk l)) ∧ Below w.heap.size w w' :=
  (check_any A c l w hC hc).mono fun e w' h => by
    obtain ⟨hb, h1 | h1 | h1 | h1⟩ := h
    · obtain ⟨h1, rfl⟩ := h1
      refine ⟨?_, hb⟩
      unfold chk
      rw [if_pos h1]
    · obtain ⟨h1, ⟨k, hk, h2⟩, rfl⟩ := h1
      refine ⟨?_, hb⟩
      unfold chk
      have : l.any wrongU = true := by
        rw [List.any_eq_true]
        rw [rd73_is l k hk] at h2
        exact ⟨_, List.getElem_mem hk, h2⟩
      rw [if_neg (by omega), if_pos this]
    · obtain ⟨h1, h2, ⟨i, hi, _, h3⟩, rfl⟩ := h1
      refine ⟨?_, hb⟩
      have ha := (any_wrong l).1 h2
      have ho := (ord_both l ha).1
      unfold chk
      rw [if_neg (by omega), if_neg (by rw [ha]; decide), if_neg (fun h => h3 (ho.1 h i hi))]
    · obtain ⟨h1, h2, h3, rfl⟩ := h1
      refine ⟨?_, hb⟩
      have ha := (any_wrong l).1 h2
      have ho := (ord_both l ha).1
      unfold chk
      rw [if_neg (by omega), if_neg (by rw [ha]; decide), if_pos (ho.2 h3)]
end Go.Proofs.Ytdkfmbammdmohaa.PPolicyCosts
