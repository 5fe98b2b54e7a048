/- The plain law of gaps31: its gaps are those of the trace, in order. -/
import Derived.Test.YtdkfmbammdmohaaY2
import Derived.Test.YtdkfmbammdmohaaX5
import Derived.Test.YtdkfmbammdmohaaY1
namespace Go.Proofs.Ytdkfmbammdmohaa.PPolicyCosts
open Go.RowKit Go.Proofs.YtdkfmbammdmohaaW.PrintWords Go.Proofs.YtdkfmbammdmohaaW.PrintLast Go.Proofs.YtdkfmbammdmohaaW.PrintMore
open Go.Proofs.YtdkfmbammdmohaaM Go.Proofs.YtdkfmbammdmohaaS
set_option linter.unusedVariables false
set_option linter.unusedSimpArgs false

def SortG (l : List S52) : Prop := l.Pairwise (fun a b => ¬ ltG b a)
theorem ltG_asymm {a b : S52} (h : ltG a b) : ¬ ltG b a := by unfold ltG at *; omega
theorem ltG_left {a b c : S52} (h : ¬ ltG b a) (h2 : ¬ ltG c b) : ¬ ltG c a := by unfold ltG at *; omega
theorem rd52_at (pre : List S52) (x : S52) (suf : List S52) : rd_T52 (pre ++ x :: suf) (pre.length : Int) = x := by
  rw [rd52_is _ _ (by simp)]
  simp
theorem swapG_at (p : List S52) (y x : S52) (suf : List S52) : swapG (p ++ y :: x :: suf) p.length = p ++ x :: y :: suf := by
  have h1 : rd_T52 (p ++ y :: x :: suf) (p.length : Int) = y := rd52_at p y (x :: suf)
  have h2 : rd_T52 (p ++ y :: x :: suf) ((p.length + 1 : Nat) : Int) = x := by
    have := rd52_at (p ++ [y]) x suf
    simpa using this
  unfold swapG
  rw [h1, h2]
  simp [List.set_append]
theorem bub_at : ∀ (j : Nat) (pre : List S52) (x : S52) (suf : List S52), pre.length = j → SortG pre →
    ∃ q, bubG (pre ++ x :: suf) j = q ++ suf ∧ q.Perm (x :: pre) ∧ SortG q
  | 0, pre, x, suf, h, hs => by
    obtain rfl : pre = [] := List.eq_nil_of_length_eq_zero h
    exact ⟨[x], rfl, List.Perm.refl _, by simp [SortG]⟩
  | j + 1, pre, x, suf, h, hs => by
    obtain ⟨p, y, rfl⟩ : ∃ p y, pre = p ++ [y] := ⟨pre.dropLast, pre.getLast (by intro h2; simp [h2] at h), (List.dropLast_concat_getLast _).symm⟩
    have hp : p.length = j := by simpa using h
    have hsp : SortG p := (List.pairwise_append.1 hs).1
    have hyp : ∀ a ∈ p, ¬ ltG y a := fun a ha => (List.pairwise_append.1 hs).2.2 a ha y (by simp)
    have e1 : p ++ [y] ++ x :: suf = p ++ y :: x :: suf := by simp
    have h1 : rd_T52 (p ++ y :: x :: suf) (j : Int) = y := by rw [← hp]; exact rd52_at p y (x :: suf)
    have h2 : rd_T52 (p ++ y :: x :: suf) ((j + 1 : Nat) : Int) = x := by
      rw [← hp]
      have := rd52_at (p ++ [y]) x suf
      simpa using this
    rw [e1, bubG, h1, h2]
    by_cases hlt : ltG x y
    · rw [if_pos hlt]
      have hsw := swapG_at p y x suf
      rw [hp] at hsw
      rw [hsw]
      obtain ⟨q, hq, hpq, hsq⟩ := bub_at j p x (y :: suf) hp hsp
      refine ⟨q ++ [y], by rw [hq]; simp, ?_, ?_⟩
      · exact (List.Perm.append_right [y] hpq).trans (by simp)
      · refine List.pairwise_append.2 ⟨hsq, by simp, ?_⟩
        intro a ha b hb
        obtain rfl : b = y := by simpa using hb
        rcases List.mem_cons.1 (hpq.mem_iff.1 ha) with rfl | ha2
        · exact ltG_asymm hlt
        · exact hyp a ha2
    · rw [if_neg hlt]
      refine ⟨p ++ [y, x], by simp, ?_, ?_⟩
      · have : (p ++ [y, x]).Perm ([x] ++ (p ++ [y])) := by
          have h3 : p ++ [y, x] = (p ++ [y]) ++ [x] := by simp
          rw [h3]
          exact List.perm_append_comm
        simpa using this
      · refine List.pairwise_append.2 ⟨hsp, by simp [hlt], ?_⟩
        intro a ha b hb
        rcases List.mem_cons.1 hb with rfl | hb2
        · exact hyp a ha
        · obtain rfl : b = x := by simpa using hb2
          exact ltG_left (hyp a ha) hlt

/-- what a use and those behind it add -/
def frG (u : S73) (r : List S73) : List S52 := match r.find? (fun v => v.f0 == u.f0) with | none => [] | some v => [⟨u.f0, u.f2, v.f1⟩]
def frontG : List S73 → List S52
  | [] => []
  | u :: r => frG u r ++ frontG r
theorem scanG_is (u : S73) (r : List S73) (g : List S52) (hs : SortG g) : (scanG u r g).Perm (g ++ frG u r) ∧ SortG (scanG u r g) := by
  unfold scanG frG
  cases r.find? (fun v => v.f0 == u.f0) with
  | none => exact ⟨by simp, hs⟩
  | some v =>
    obtain ⟨q, hq, hp, hsq⟩ := bub_at g.length g ⟨u.f0, u.f2, v.f1⟩ [] rfl hs
    simp only
    rw [hq, List.append_nil]
    exact ⟨hp.trans (by simpa using (List.perm_append_comm (l₁ := [(⟨u.f0, u.f2, v.f1⟩ : S52)]) (l₂ := g))), hsq⟩
theorem gapsR_sort (l : List S73) : ∀ i, SortG (gapsR l i)
  | 0 => by simp [gapsR, SortG]
  | i + 1 => by rw [gapsR_succ]; exact (scanG_is _ _ _ (gapsR_sort l i)).2
theorem gapsR_front (l : List S73) : ∀ (r pre : List S73), l = pre ++ r → (gapsR l l.length).Perm (gapsR l pre.length ++ frontG r)
  | [], pre, h => by simp [frontG, h]
  | u :: r, pre, h => by
    have ih := gapsR_front l r (pre ++ [u]) (by simp [h])
    have hrd : rd_T73 l (pre.length : Int) = u := by rw [rd73x_is l pre.length (by simp [h])]; simp [h]
    have hdr : l.drop (pre.length + 1) = r := by
      have : l = (pre ++ [u]) ++ r := by simp [h]
      rw [this]
      have h2 : pre.length + 1 = (pre ++ [u]).length := by simp
      rw [h2, List.drop_left]
    have hl : (pre ++ [u]).length = pre.length + 1 := by simp
    rw [hl, gapsR_succ, hrd, hdr] at ih
    refine ih.trans ?_
    rw [frontG, ← List.append_assoc]
    exact List.Perm.append_right _ (scanG_is u r _ (gapsR_sort l _)).1

theorem lastOf_cons (a : S73) (l : List S73) (p : Int) : lastOf (a :: l) p = match lastOf l p with | some t => some t | none => if a.f0 = p then some a.f2 else none := by
  refine snoc_ind (P := fun l => lastOf (a :: l) p = match lastOf l p with | some t => some t | none => if a.f0 = p then some a.f2 else none) ?_ ?_ l
  · simp [lastOf]
  · intro l u ih
    rw [← List.cons_append, lastOf_snoc, lastOf_snoc, ih]
    by_cases h : u.f0 = p
    · rw [if_pos h, if_pos h]
    · rw [if_neg h, if_neg h]
theorem last_find (l : List S73) (p : Int) : lastOf l p = none ↔ l.find? (fun v => v.f0 == p) = none := by
  induction l with
  | nil => simp [lastOf]
  | cons a l ih =>
    rw [lastOf_cons, List.find?_cons]
    by_cases h : a.f0 = p
    · have hb : (a.f0 == p) = true := by simpa using h
      rw [if_pos h, hb]
      cases lastOf l p <;> simp
    · have hb : (a.f0 == p) = false := by simpa using h
      rw [if_neg h, hb]
      simp only
      rw [← ih]
      cases lastOf l p <;> simp
theorem front_snoc (u : S73) : ∀ l : List S73, (frontG (l ++ [u])).Perm (frontG l ++ gapOf l u)
  | [] => by simp [frontG, frG, gapOf, lastOf]
  | a :: l => by
    have ih := front_snoc u l
    rw [List.cons_append, frontG, frontG]
    have hfa : (l ++ [u]).find? (fun v => v.f0 == a.f0) = match l.find? (fun v => v.f0 == a.f0) with | some v => some v | none => if u.f0 = a.f0 then some u else none := by
      rw [List.find?_append]
      cases l.find? (fun v => v.f0 == a.f0) with
      | some v => simp
      | none =>
        by_cases h : u.f0 = a.f0
        · simp [h]
        · simp [h]
    have hlc := lastOf_cons a l u.f0
    cases hf : l.find? (fun v => v.f0 == a.f0) with
    | some v =>
      have h1 : frG a (l ++ [u]) = frG a l := by unfold frG; rw [hfa, hf]
      have h2 : gapOf (a :: l) u = gapOf l u := by
        unfold gapOf
        rw [hlc]
        cases hl : lastOf l u.f0 with
        | some t => rfl
        | none =>
          have hne : a.f0 ≠ u.f0 := by
            intro h
            rw [last_find, ← h, hf] at hl
            cases hl
          rw [if_neg hne]
      rw [h1, h2, List.append_assoc]
      exact List.Perm.append_left _ ih
    | none =>
      by_cases h : u.f0 = a.f0
      · have hl : lastOf l u.f0 = none := by rw [last_find, h]; exact hf
        have h1 : frG a (l ++ [u]) = [⟨a.f0, a.f2, u.f1⟩] := by unfold frG; rw [hfa, hf]; simp only; rw [if_pos h]
        have h2 : frG a l = [] := by unfold frG; rw [hf]
        have h3 : gapOf (a :: l) u = [⟨a.f0, a.f2, u.f1⟩] := by unfold gapOf; rw [hlc, hl]; simp only; rw [if_pos h.symm, h]
        have h4 : gapOf l u = [] := by unfold gapOf; rw [hl]
        rw [h4, List.append_nil] at ih
        rw [h1, h2, h3, List.nil_append]
        exact (List.Perm.append_left _ ih).trans List.perm_append_comm
      · have h1 : frG a (l ++ [u]) = frG a l := by unfold frG; rw [hfa, hf]; simp only; rw [if_neg h]
        have h2 : gapOf (a :: l) u = gapOf l u := by
          unfold gapOf
          rw [hlc]
          cases hl : lastOf l u.f0 with
          | some t => rfl
          | none => rw [if_neg (fun h2 => h h2.symm)]
        rw [h1, h2, List.append_assoc]
        exact List.Perm.append_left _ ih
theorem front_gaps (l : List S73) : (frontG l).Perm (gapsOf l) := by
  refine snoc_ind (P := fun l => (frontG l).Perm (gapsOf l)) (List.Perm.refl _) ?_ l
  intro l u ih
  rw [gapsOf_snoc]
  exact (front_snoc u l).trans (List.Perm.append_right _ ih)
/-- The gaps of gaps31 are those of the trace, in order. -/
theorem gapsR_is (l : List S73) : (gapsR l l.length).Perm (gapsOf l) ∧ SortG (gapsR l l.length) := by
  refine ⟨?_, gapsR_sort l _⟩
  have := gapsR_front l l [] rfl
  exact (by simpa [gapsR] using this : (gapsR l l.length).Perm (frontG l)).trans (front_gaps l)
end Go.Proofs.Ytdkfmbammdmohaa.PPolicyCosts

namespace Go.Proofs.Ytdkfmbammdmohaa.PPolicyCosts
open Go.RowKit Go.Proofs.YtdkfmbammdmohaaW.PrintWords Go.Proofs.YtdkfmbammdmohaaW.PrintLast Go.Proofs.YtdkfmbammdmohaaW.PrintMore
open Go.Proofs.YtdkfmbammdmohaaM Go.Proofs.YtdkfmbammdmohaaS
set_option linter.unusedVariables false
set_option linter.unusedSimpArgs false

def SortU (l : List S73) : Prop := l.Pairwise (fun a b => ¬ ltU b a)
theorem ltU_asymm {a b : S73} (h : ltU a b) : ¬ ltU b a := by unfold ltU at *; omega
theorem ltU_left {a b c : S73} (h : ¬ ltU b a) (h2 : ¬ ltU c b) : ¬ ltU c a := by unfold ltU at *; omega
theorem rd73_at (pre : List S73) (x : S73) (suf : List S73) : rd_T73 (pre ++ x :: suf) (pre.length : Int) = x := by
  rw [rd73x_is _ _ (by simp)]
  simp
theorem swapU_at (p : List S73) (y x : S73) (suf : List S73) : swapU (p ++ y :: x :: suf) p.length = p ++ x :: y :: suf := by
  have h1 : rd_T73 (p ++ y :: x :: suf) (p.length : Int) = y := rd73_at p y (x :: suf)
  have h2 : rd_T73 (p ++ y :: x :: suf) ((p.length + 1 : Nat) : Int) = x := by
    have := rd73_at (p ++ [y]) x suf
    simpa using this
  unfold swapU
  rw [h1, h2]
  simp [List.set_append]
theorem bubU_at : ∀ (j : Nat) (pre : List S73) (x : S73) (suf : List S73), pre.length = j → SortU pre →
    ∃ q, bubU (pre ++ x :: suf) j = q ++ suf ∧ q.Perm (x :: pre) ∧ SortU q
  | 0, pre, x, suf, h, hs => by
    obtain rfl : pre = [] := List.eq_nil_of_length_eq_zero h
    exact ⟨[x], rfl, List.Perm.refl _, by simp [SortU]⟩
  | j + 1, pre, x, suf, h, hs => by
    obtain ⟨p, y, rfl⟩ : ∃ p y, pre = p ++ [y] := ⟨pre.dropLast, pre.getLast (by intro h2; simp [h2] at h), (List.dropLast_concat_getLast _).symm⟩
    have hp : p.length = j := by simpa using h
    have hsp : SortU p := (List.pairwise_append.1 hs).1
    have hyp : ∀ a ∈ p, ¬ ltU y a := fun a ha => (List.pairwise_append.1 hs).2.2 a ha y (by simp)
    have e1 : p ++ [y] ++ x :: suf = p ++ y :: x :: suf := by simp
    have h1 : rd_T73 (p ++ y :: x :: suf) (j : Int) = y := by rw [← hp]; exact rd73_at p y (x :: suf)
    have h2 : rd_T73 (p ++ y :: x :: suf) ((j + 1 : Nat) : Int) = x := by
      rw [← hp]
      have := rd73_at (p ++ [y]) x suf
      simpa using this
    rw [e1, bubU, h1, h2]
    by_cases hlt : ltU x y
    · rw [if_pos hlt]
      have hsw := swapU_at p y x suf
      rw [hp] at hsw
      rw [hsw]
      obtain ⟨q, hq, hpq, hsq⟩ := bubU_at j p x (y :: suf) hp hsp
      refine ⟨q ++ [y], by rw [hq]; simp, ?_, ?_⟩
      · exact (List.Perm.append_right [y] hpq).trans (by simp)
      · refine List.pairwise_append.2 ⟨hsq, by simp, ?_⟩
        intro a ha b hb
        obtain rfl : b = y := by simpa using hb
        rcases List.mem_cons.1 (hpq.mem_iff.1 ha) with rfl | ha2
        · exact ltU_asymm hlt
        · exact hyp a ha2
    · rw [if_neg hlt]
      refine ⟨p ++ [y, x], by simp, ?_, ?_⟩
      · have : (p ++ [y, x]).Perm ([x] ++ (p ++ [y])) := by
          have h3 : p ++ [y, x] = (p ++ [y]) ++ [x] := by simp
          rw [h3]
          exact List.perm_append_comm
        simpa using this
      · refine List.pairwise_append.2 ⟨hsp, by simp [hlt], ?_⟩
        intro a ha b hb
        rcases List.mem_cons.1 hb with rfl | hb2
        · exact hyp a ha
        · obtain rfl : b = x := by simpa using hb2
          exact ltU_left (hyp a ha) hlt

/-- no two uses of a page meet -/
def DisU (l : List S73) : Prop := l.Pairwise (fun a b => a.f0 = b.f0 → a.f2 < b.f1 ∨ b.f2 < a.f1)
theorem disU_perm {l l' : List S73} (h : l.Perm l') : DisU l ↔ DisU l' := by
  unfold DisU
  exact h.pairwise_iff (fun {a b} hab he => (hab he.symm).symm)
theorem lastOf_mem (p : Int) (l : List S73) : ∀ t, lastOf l p = some t → ∃ a ∈ l, a.f0 = p ∧ a.f2 = t := by
  refine snoc_ind (P := fun l => ∀ t, lastOf l p = some t → ∃ a ∈ l, a.f0 = p ∧ a.f2 = t) (by simp [lastOf]) ?_ l
  intro l u ih t h
  rw [lastOf_snoc] at h
  by_cases hp : u.f0 = p
  · rw [if_pos hp] at h
    injection h with h
    exact ⟨u, by simp, hp, h⟩
  · rw [if_neg hp] at h
    obtain ⟨a, ha, h1⟩ := ih t h
    exact ⟨a, by simp [ha], h1⟩
theorem ok_of (l : List S73) : (∀ u ∈ l, u.f1 < u.f2) → SortU l → DisU l → okTrace l = true := by
  refine snoc_ind (P := fun l => (∀ u ∈ l, u.f1 < u.f2) → SortU l → DisU l → okTrace l = true) (fun _ _ _ => rfl) ?_ l
  intro l u ih hr hs hd
  have hs' := List.pairwise_append.1 hs
  have hd' := List.pairwise_append.1 hd
  have hu := hr u (by simp)
  have key : ∀ a ∈ l, ltU a u ∧ (a.f0 = u.f0 → a.f2 < u.f1) := by
    intro a ha
    have h1 : ¬ ltU u a := hs'.2.2 a ha u (by simp)
    have h2 := hd'.2.2 a ha u (by simp)
    have h3 := hr a (by simp [ha])
    have h4 : a.f0 = u.f0 → a.f2 < u.f1 := by
      intro he
      rcases h2 he with h | h
      · exact h
      · exfalso; apply h1; unfold ltU; omega
    refine ⟨?_, h4⟩
    unfold ltU at *
    by_cases he : a.f0 = u.f0
    · have := h4 he; omega
    · omega
  rw [okTrace_snoc, ih (fun v hv => hr v (by simp [hv])) hs'.1 hd'.1, Bool.true_and]
  unfold okAt
  rw [Bool.and_eq_true]
  constructor
  · cases hg : l.getLast? with
    | none => rfl
    | some a =>
      have := (key a (List.mem_of_getLast? hg)).1
      unfold ltU at this
      simp only [after, Bool.or_eq_true, Bool.and_eq_true, decide_eq_true_eq]
      exact this
  · cases hl : lastOf l u.f0 with
    | none => rfl
    | some t =>
      obtain ⟨a, ha, h1, h2⟩ := lastOf_mem _ _ _ hl
      have := (key a ha).2 h1
      simp only [decide_eq_true_eq]
      omega
theorem endOf_max (l : List S73) : (∀ u ∈ l, u.f2 ≤ endOf l) ∧ 0 ≤ endOf l ∧ (endOf l = 0 ∨ ∃ u ∈ l, u.f2 = endOf l) := by
  refine snoc_ind (P := fun l => (∀ u ∈ l, u.f2 ≤ endOf l) ∧ 0 ≤ endOf l ∧ (endOf l = 0 ∨ ∃ u ∈ l, u.f2 = endOf l)) (by simp [endOf]) ?_ l
  intro l u ⟨h1, h2, h3⟩
  have hm : mx (endOf l) u.f2 = endOf l ∧ u.f2 ≤ endOf l ∨ mx (endOf l) u.f2 = u.f2 ∧ endOf l ≤ u.f2 := by unfold mx; split <;> omega
  rw [endOf_snoc]
  generalize mx (endOf l) u.f2 = m at *
  refine ⟨?_, by omega, ?_⟩
  · intro v hv
    rcases List.mem_append.1 hv with hv | hv
    · have := h1 v hv; omega
    · obtain rfl : v = u := by simpa using hv
      omega
  · rcases hm with ⟨rfl, _⟩ | ⟨rfl, _⟩
    · rcases h3 with h | ⟨v, hv, h⟩
      · exact Or.inl h
      · exact Or.inr ⟨v, by simp [hv], h⟩
    · exact Or.inr ⟨u, by simp, rfl⟩
structure OkU (s : StU) : Prop where
  srt : SortU s.l
  dis : DisU s.l
  rng : ∀ u ∈ s.l, 0 ≤ u.f0 ∧ u.f0 < 3 ∧ 0 ≤ u.f1 ∧ u.f1 < u.f2 ∧ u.f2 ≤ s.last u.f0 ∧ u.f2 ≤ s.e
  en : 0 ≤ s.e ∧ (s.e = 0 ∨ ∃ u ∈ s.l, u.f2 = s.e)
theorem stepU_last (s : StU) (x : S86) (p : Int) (p0 : 0 ≤ p) (p3 : p < 3) : (stepU s x).last p = if p = x.f0 % 3 then (useOf s x).f2 else s.last p := by
  unfold stepU StU.last
  generalize (useOf s x).f2 = v
  simp only
  by_cases h0 : p = 0
  · subst h0
    rw [if_pos rfl]
    by_cases h : x.f0 % 3 = 0
    · rw [if_pos h, if_pos h.symm]
    · rw [if_neg h, if_neg (fun h2 => h h2.symm), if_pos rfl]
  · rw [if_neg h0]
    by_cases h1 : p = 1
    · subst h1
      rw [if_pos rfl]
      by_cases h : x.f0 % 3 = 1
      · rw [if_pos h, if_pos h.symm]
      · rw [if_neg h, if_neg (fun h2 => h h2.symm), if_neg (by decide), if_pos rfl]
    · rw [if_neg h1]
      obtain rfl : p = 2 := by omega
      by_cases h : x.f0 % 3 = 2
      · rw [if_pos h, if_pos h.symm]
      · rw [if_neg h, if_neg (fun h2 => h h2.symm), if_neg (by decide), if_neg (by decide)]
theorem stepU_ok {s : StU} {k : Nat} (h : OkU s) (hb : BdU s k) (x : S86) : OkU (stepU s x) := by
  have hu := useOf_bd hb x
  have hl : s.last (x.f0 % 3) < (useOf s x).f1 := by unfold useOf; simp only; omega
  have hp : (useOf s x).f0 = x.f0 % 3 := rfl
  have hlast := stepU_last s x
  obtain ⟨q, hq, hpq, hsq⟩ := bubU_at s.l.length s.l (useOf s x) [] rfl h.srt
  have hsl : (stepU s x).l = q := by show bubU (s.l ++ [useOf s x]) s.l.length = q; rw [hq]; simp
  have hse : (stepU s x).e = mx s.e (useOf s x).f2 := rfl
  have hm : mx s.e (useOf s x).f2 = s.e ∧ (useOf s x).f2 ≤ s.e ∨ mx s.e (useOf s x).f2 = (useOf s x).f2 ∧ s.e ≤ (useOf s x).f2 := by unfold mx; split <;> omega
  have hd : DisU (useOf s x :: s.l) := by
    refine List.pairwise_cons.2 ⟨?_, h.dis⟩
    intro a ha he
    have := (h.rng a ha).2.2.2.2.1
    rw [← he, hp] at this
    exact Or.inr (by omega)
  refine ⟨by rw [hsl]; exact hsq, by rw [hsl]; exact (disU_perm hpq).2 hd, ?_, ?_⟩
  · intro v hv
    rw [hsl] at hv
    rw [hse]
    rcases List.mem_cons.1 (hpq.mem_iff.1 hv) with rfl | hv2
    · rw [hlast _ (by omega) (by omega), if_pos hp]
      omega
    · obtain ⟨r1, r2, r3, r4, r5, r6⟩ := h.rng v hv2
      refine ⟨r1, r2, r3, r4, ?_, by omega⟩
      rw [hlast _ r1 r2]
      by_cases he : v.f0 = x.f0 % 3
      · rw [if_pos he]
        rw [he] at r5
        omega
      · rw [if_neg he]
        exact r5
  · rw [hse, hsl]
    have he := h.en
    refine ⟨by omega, ?_⟩
    rcases hm with ⟨h1, _⟩ | ⟨h1, _⟩
    · rw [h1]
      rcases he.2 with h2 | ⟨v, hv, h2⟩
      · exact Or.inl h2
      · exact Or.inr ⟨v, hpq.mem_iff.2 (by simp [hv]), h2⟩
    · rw [h1]
      exact Or.inr ⟨_, hpq.mem_iff.2 (by simp), rfl⟩
theorem usesR_ok (xs : List S86) : ∀ k, OkU (usesR xs k)
  | 0 => ⟨by simp [usesR, SortU], by simp [usesR, DisU], by simp [usesR], by simp [usesR]⟩
  | k + 1 => stepU_ok (usesR_ok xs k) (usesR_bd xs k) _
theorem usesR_trace (xs : List S86) (k : Nat) : okTrace (usesR xs k).l = true := by
  have h := usesR_ok xs k
  exact ok_of _ (fun u hu => (h.rng u hu).2.2.2.1) h.srt h.dis
theorem usesR_end (xs : List S86) (k : Nat) : endOf (usesR xs k).l = (usesR xs k).e := by
  have h := usesR_ok xs k
  obtain ⟨e1, e2, e3⟩ := endOf_max (usesR xs k).l
  obtain ⟨f1, f2⟩ := h.en
  have h1 : endOf (usesR xs k).l ≤ (usesR xs k).e := by
    rcases e3 with h2 | ⟨u, hu, h2⟩
    · omega
    · have := (h.rng u hu).2.2.2.2.2; omega
  have h2 : (usesR xs k).e ≤ endOf (usesR xs k).l := by
    rcases f2 with h2 | ⟨u, hu, h2⟩
    · omega
    · have := e1 u hu; omega
  omega
end Go.Proofs.Ytdkfmbammdmohaa.PPolicyCosts

namespace Go.Proofs.Ytdkfmbammdmohaa.PPolicyCosts
open Go.RowKit Go.Proofs.YtdkfmbammdmohaaW.PrintWords Go.Proofs.YtdkfmbammdmohaaW.PrintLast Go.Proofs.YtdkfmbammdmohaaW.PrintMore
open Go.Proofs.YtdkfmbammdmohaaM Go.Proofs.YtdkfmbammdmohaaS
set_option linter.unusedVariables false
set_option linter.unusedSimpArgs false

theorem cmpGap_lt (x y : S52) : decide (cmpGap x y < 0) = decide (ltG x y) := by
  unfold cmpGap orI cmpI ltG
  by_cases h1 : x.f1 < y.f1
  · simp [h1]
  · by_cases h2 : y.f1 < x.f1
    · have h3 : ¬ x.f1 = y.f1 := by omega
      simp [h1, h2, h3]
    · have h3 : x.f1 = y.f1 := by omega
      by_cases h4 : x.f0 < y.f0
      · simp [h3, h4]
      · by_cases h5 : y.f0 < x.f0
        · simp [h3, h4, h5]
        · simp [h3, h4, h5]
theorem gaps_inv (l : List S73) : (∀ u ∈ l, u.f1 < u.f2) → okTrace l = true →
    (∀ g ∈ gapsOf l, ∃ t, lastOf l g.f0 = some t ∧ g.f1 < g.f2 ∧ g.f2 < t) ∧ (∀ a ∈ gapsOf l, ∀ b ∈ gapsOf l, a.f0 = b.f0 → a.f1 = b.f1 → a = b) := by
  refine snoc_ind (P := fun l => (∀ u ∈ l, u.f1 < u.f2) → okTrace l = true → (∀ g ∈ gapsOf l, ∃ t, lastOf l g.f0 = some t ∧ g.f1 < g.f2 ∧ g.f2 < t) ∧ (∀ a ∈ gapsOf l, ∀ b ∈ gapsOf l, a.f0 = b.f0 → a.f1 = b.f1 → a = b)) ?_ ?_ l
  · intro _ _
    exact ⟨by simp [gapsOf, gapsU], by simp [gapsOf, gapsU]⟩
  · intro l u ih hr ho
    rw [okTrace_snoc, Bool.and_eq_true] at ho
    obtain ⟨i1, i2⟩ := ih (fun v hv => hr v (by simp [hv])) ho.1
    have hu := hr u (by simp)
    have hok := ho.2
    unfold okAt at hok
    rw [Bool.and_eq_true] at hok
    have hn : ∀ g ∈ gapOf l u, ∃ t, lastOf l u.f0 = some t ∧ t < u.f1 ∧ g = ⟨u.f0, t, u.f1⟩ := by
      intro g hg
      unfold gapOf at hg
      cases hl : lastOf l u.f0 with
      | none => rw [hl] at hg; simp at hg
      | some t =>
        rw [hl] at hg hok
        have h2 := hok.2
        simp only [decide_eq_true_eq] at h2
        exact ⟨t, rfl, h2, by simpa using hg⟩
    rw [gapsOf_snoc]
    have hmix : ∀ a ∈ gapsOf l, ∀ b ∈ gapOf l u, a.f0 = b.f0 → a.f1 ≠ b.f1 := by
      intro a ha b hb he
      obtain ⟨t, h1, h2, h3⟩ := i1 a ha
      obtain ⟨t', h4, h5, rfl⟩ := hn b hb
      simp only at he ⊢
      rw [he, h4] at h1
      injection h1 with h1
      omega
    constructor
    · intro g hg
      rcases List.mem_append.1 hg with hg | hg
      · obtain ⟨t, h1, h2, h3⟩ := i1 g hg
        rw [lastOf_snoc]
        by_cases hp : u.f0 = g.f0
        · rw [if_pos hp]
          rw [hp, h1] at hok
          have h4 := hok.2
          simp only [decide_eq_true_eq] at h4
          exact ⟨_, rfl, h2, by omega⟩
        · rw [if_neg hp]
          exact ⟨t, h1, h2, h3⟩
      · obtain ⟨t, h1, h2, rfl⟩ := hn g hg
        rw [lastOf_snoc, if_pos rfl]
        exact ⟨_, rfl, h2, hu⟩
    · intro a ha b hb he1 he2
      rcases List.mem_append.1 ha with ha | ha <;> rcases List.mem_append.1 hb with hb | hb
      · exact i2 a ha b hb he1 he2
      · exact absurd he2 (hmix a ha b hb he1)
      · exact absurd he2.symm (hmix b hb a ha he1.symm)
      · obtain ⟨t, h1, _, rfl⟩ := hn a ha
        obtain ⟨t', h1', _, rfl⟩ := hn b hb
        rw [h1] at h1'
        injection h1' with h1'
        rw [h1']
/-- The gaps that the package tells are those of gaps31. -/
theorem told_is {l : List S73} {gs : List S52} (hr : ∀ u ∈ l, u.f1 < u.f2) (ho : okTrace l = true) (h : gs.Perm (gapsOf l)) (hs : gs.Pairwise (fun x y => decide (cmpGap y x < 0) = false)) : gs = gapsR l l.length := by
  obtain ⟨h1, h2⟩ := gapsR_is l
  have inv := (gaps_inv l hr ho).2
  have hs' : gs.Pairwise (fun x y => ¬ ltG y x) := hs.imp (fun {a b} hab => by rw [cmpGap_lt] at hab; simpa using hab)
  refine (h.trans h1.symm).eq_of_pairwise (fun a b ha hb n1 n2 => ?_) hs' h2
  refine inv a (h.mem_iff.1 ha) b (h1.mem_iff.1 hb) ?_ ?_
  · unfold ltG at n1 n2; omega
  · unfold ltG at n1 n2; omega
theorem usesR_right (xs : List S86) (k : Nat) (hk : k ≤ 8) : ∀ u ∈ (usesR xs k).l, 0 ≤ u.f0 ∧ u.f0 < 3 ∧ 0 ≤ u.f1 ∧ u.f1 < u.f2 ∧ u.f2 ≤ 80 := by
  intro u hu
  have h := (usesR_ok xs k).rng u hu
  have hb := (usesR_bd xs k).be
  omega
theorem uses_chk (xs : List S86) (k : Nat) (hk : k ≤ 8) : chk (usesR xs k).l = 0 := by
  have hl := (usesR_bd xs k).len
  have hw : (usesR xs k).l.any wrongU = false := by
    rw [List.any_eq_false]
    intro u hu
    have := usesR_right xs k hk u hu
    simp only [wrongU, outB, Bool.or_eq_true, decide_eq_true_eq]
    omega
  unfold chk
  rw [hl, if_neg (by omega), hw, usesR_trace]
  rfl
theorem uses_both (xs : List S86) (k : Nat) (hk : k ≤ 8) (hold win : Int) (h0 : 0 ≤ hold) (h1 : hold < 8) (w0 : 0 ≤ win) (w1 : win < 40) : bothE (usesR xs k).l hold win = 0 := by
  have h2 : outB hold 1000 = false := by simp [outB]; omega
  have h3 : outB win 1000000000 = false := by simp [outB]; omega
  unfold bothE
  rw [uses_chk xs k hk, h2, h3]
  rfl
end Go.Proofs.Ytdkfmbammdmohaa.PPolicyCosts

namespace Go.Proofs.Ytdkfmbammdmohaa.PPolicyCosts
open Go.RowKit Go.Proofs.YtdkfmbammdmohaaW.PrintWords Go.Proofs.YtdkfmbammdmohaaW.PrintLast Go.Proofs.YtdkfmbammdmohaaW.PrintMore
set_option linter.unusedVariables false
set_option linter.unusedSimpArgs false

/-- is a list less than another one? -/
def lexL : List Int → List Int → Bool
  | [], [] => false
  | [], _ :: _ => true
  | _ :: _, [] => false
  | x :: xs, y :: ys => if x = y then lexL xs ys else decide (x < y)
theorem lexL_irrefl : ∀ a : List Int, lexL a a = false
  | [] => rfl
  | x :: xs => by rw [lexL, if_pos rfl]; exact lexL_irrefl xs
theorem rdi_is (l : List Int) (k : Nat) (h : k < l.length) : rd l (k : Int) = l[k] := by
  unfold rd
  rw [Int.toNat_natCast, List.getD_eq_getElem?_getD, List.getElem?_eq_getElem h]
  rfl
theorem less_ev (a b : List Int) (ha : a.length ≤ 1000) : ∀ (m i : Nat), a.length ≤ i + m → i ≤ a.length → poldertop_less31.l0 (2 * m + 2) a b (i : Int) = some (lexL (a.drop i) (b.drop i))
  | m, i, hm, hi => by
    rw [poldertop_less31.l0]
    by_cases h : i < a.length
    · rw [if_pos (by omega), poldertop_less31.j1]
      by_cases hb : i < b.length
      · have hd : decide ((i : Int) < (b.length : Int)) = true := by simpa using hb
        rw [hd, if_pos rfl, if_pos (by omega), if_pos (by omega), if_pos (by omega), rdi_is a i h, rdi_is b i hb, List.drop_eq_getElem_cons h, List.drop_eq_getElem_cons hb, lexL]
        by_cases he : a[i] = b[i]
        · rw [if_pos he, if_pos he]
          obtain ⟨m', rfl⟩ : ∃ m', m = m' + 1 := ⟨m - 1, by omega⟩
          have hw : wrap64 ((i : Int) + 1) = ((i + 1 : Nat) : Int) := by unfold wrap64; omega
          rw [hw]
          have ih := less_ev a b ha m' (i + 1) (by omega) (by omega)
          exact ih
        · rw [if_neg he, if_neg he]
      · have hd : decide ((i : Int) < (b.length : Int)) = false := by simpa using hb
        rw [hd, if_neg (by decide), List.drop_eq_getElem_cons h, List.drop_eq_nil_of_le (show b.length ≤ i by omega), lexL]
        have : ¬ ((a.length : Int) < (b.length : Int)) := by omega
        simp [this]
    · rw [if_neg (by omega), poldertop_less31.j1, if_neg (by decide), List.drop_eq_nil_of_le (show a.length ≤ i by omega)]
      by_cases hb : i < b.length
      · rw [List.drop_eq_getElem_cons hb, lexL]
        have : (a.length : Int) < (b.length : Int) := by omega
        simp [this]
      · rw [List.drop_eq_nil_of_le (show b.length ≤ i by omega), lexL]
        have : ¬ ((a.length : Int) < (b.length : Int)) := by omega
        simp [this]
theorem less_is (a b : List Int) (ha : a.length ≤ 1000) : poldertop_less31.f (2 * 1000 + 2) a b = some (lexL a b) := by
  have := less_ev a b ha 1000 0 (by omega) (by omega)
  simpa [poldertop_less31.f] using this
theorem same_is (a b : List Int) (ha : a.length ≤ 1000) (hb : b.length ≤ 1000) : poldertop_same31.f (2 * 1000 + 2) a b = some (!lexL a b && !lexL b a) := by
  unfold poldertop_same31.f
  rw [less_is a b ha, less_is b a hb]
  cases lexL a b <;> simp
theorem same_self (a : List Int) (ha : a.length ≤ 1000) : poldertop_same31.f (2 * 1000 + 2) a a = some true := by
  rw [same_is a a ha ha, lexL_irrefl]
  rfl
end Go.Proofs.Ytdkfmbammdmohaa.PPolicyCosts

namespace Go.Proofs.Ytdkfmbammdmohaa.PPolicyCosts
open Go.RowKit Go.Proofs.YtdkfmbammdmohaaW.PrintWords Go.Proofs.YtdkfmbammdmohaaW.PrintLast Go.Proofs.YtdkfmbammdmohaaW.PrintMore
set_option linter.unusedVariables false
set_option linter.unusedSimpArgs false

theorem bit_val (b : Int) (i : Nat) (b0 : 0 ≤ b) (b1 : b < 9223372036854775808) (hi : i ≤ 60) : Go.bits .and .i64 (shr .i64 b (i : Int)) 1 = b / 2 ^ i % 2 := by
  have h1 : shr .i64 b (i : Int) = b / 2 ^ i := by
    unfold shr
    rw [Int.toNat_natCast, Nat.min_eq_left (show i ≤ IntKind.i64.bits by show i ≤ 64; omega)]
  have h2 : 0 ≤ b / 2 ^ i := Int.ediv_nonneg b0 (by have := Int.pow_pos (n := 2) (m := i) (by decide); omega)
  have h3 : b / 2 ^ i ≤ b := Int.ediv_le_self _ b0
  rw [h1]
  exact and_one _ h2 (by omega)
theorem bit_one (b : Int) (i : Nat) (b0 : 0 ≤ b) (b1 : b < 9223372036854775808) (hi : i ≤ 60) : (Go.bits .and .i64 (shr .i64 b (i : Int)) 1 = 1) ↔ bitB b i = true := by
  rw [bit_val b i b0 b1 hi]
  unfold bitB
  simp
theorem bit_nil (b : Int) (i : Nat) (b0 : 0 ≤ b) (b1 : b < 9223372036854775808) (hi : i ≤ 60) : (Go.bits .and .i64 (shr .i64 b (i : Int)) 1 = 0) ↔ bitB b i = false := by
  rw [bit_val b i b0 b1 hi]
  unfold bitB
  simp only [decide_eq_false_iff_not]
  omega
/-- the cost of the gaps that are kept, so far -/
def keepC (hold win : Int) (g : List S52) (b base : Int) : Nat → Int
  | 0 => base
  | i + 1 => if bitB b i = true then wrap64 (keepC hold win g b base i + wrap64 (wrap64 (hold * wrap64 ((rd_T52 g (i : Int)).f2 - (rd_T52 g (i : Int)).f1)) - win)) else keepC hold win g b base i
/-- how many kept gaps are held where another one begins -/
def manyN (g : List S52) (b : Int) (i : Nat) : Nat → Nat
  | 0 => 0
  | k + 1 => if bitB b k = true ∧ (rd_T52 g (k : Int)).f1 ≤ (rd_T52 g (i : Int)).f1 ∧ (rd_T52 g (i : Int)).f1 < (rd_T52 g (k : Int)).f2 then manyN g b i k + 1 else manyN g b i k
def mostN (g : List S52) (b : Int) : Nat → Int
  | 0 => 0
  | i + 1 => if bitB b i = true then mx (mostN g b i) (manyN g b i g.length) else mostN g b i
theorem manyN_le (g : List S52) (b : Int) (i : Nat) : ∀ k, manyN g b i k ≤ k
  | 0 => Nat.le_refl _
  | k + 1 => by have := manyN_le g b i k; rw [manyN]; split <;> omega
section
variable {g : List S52} {b n hold win : Int} (hg : g.length ≤ 60) (b0 : 0 ≤ b) (b1 : b < 9223372036854775808)
include hg b0 b1
theorem kept_l1 (x12 x13 : Int) (v : Int × Bool) (i : Nat) (hi : i < g.length)
    (hn : ∃ K, poldertop_kept31.l0 K g b n x12 (mx x13 (manyN g b i g.length)) ((i + 1 : Nat) : Int) hold win = some v) :
    ∀ m k : Nat, k + m = g.length → ∃ K, poldertop_kept31.l1 K g b n x12 x13 (i : Int) ((manyN g b i k : Nat) : Int) (k : Int) hold win = some v
  | 0, k, hk => by
    obtain ⟨K, hK⟩ := hn
    obtain rfl : k = g.length := by omega
    refine ⟨K + 1, ?_⟩
    have hw : wrap64 ((i : Int) + 1) = ((i + 1 : Nat) : Int) := by unfold wrap64; omega
    rw [poldertop_kept31.l1, if_neg (by omega), hw]
    exact hK
  | m + 1, k, hk => by
    obtain ⟨K, hK⟩ := kept_l1 x12 x13 v i hi hn m (k + 1) (by omega)
    refine ⟨K + 1, ?_⟩
    have hm := manyN_le g b i k
    have hw : wrap64 ((k : Int) + 1) = ((k + 1 : Nat) : Int) := by unfold wrap64; omega
    have hw2 : wrap64 (((manyN g b i k : Nat) : Int) + 1) = ((manyN g b i k + 1 : Nat) : Int) := by unfold wrap64; omega
    rw [poldertop_kept31.l1, if_pos (by omega), if_pos (by omega), hw, hw2]
    rw [manyN] at hK
    by_cases hb : bitB b k = true
    · rw [if_pos ((bit_one b k b0 b1 (by omega)).2 hb), if_pos (by omega), if_pos (by omega)]
      by_cases h1 : (rd_T52 g (k : Int)).f1 ≤ (rd_T52 g (i : Int)).f1
      · rw [if_pos h1]
        by_cases h2 : (rd_T52 g (i : Int)).f1 < (rd_T52 g (k : Int)).f2
        · rw [if_pos h2]
          rw [if_pos ⟨hb, h1, h2⟩] at hK
          exact hK
        · rw [if_neg h2]
          rw [if_neg (fun h => h2 h.2.2)] at hK
          exact hK
      · rw [if_neg h1]
        rw [if_neg (fun h => h1 h.2.1)] at hK
        exact hK
    · rw [if_neg (fun h => hb ((bit_one b k b0 b1 (by omega)).1 h))]
      rw [if_neg (fun h => hb h.1)] at hK
      exact hK
theorem kept_l0 (base : Int) : ∀ m i : Nat, i + m = g.length →
    ∃ K, poldertop_kept31.l0 K g b n (keepC hold win g b base i) (mostN g b i) (i : Int) hold win = some (keepC hold win g b base g.length, decide (mostN g b g.length ≤ n))
  | 0, i, hi => by
    obtain rfl : i = g.length := by omega
    exact ⟨1, by rw [poldertop_kept31.l0, if_neg (by omega)]⟩
  | m + 1, i, hi => by
    obtain ⟨K, hK⟩ := kept_l0 base m (i + 1) (by omega)
    rw [keepC, mostN] at hK
    have hw : wrap64 ((i : Int) + 1) = ((i + 1 : Nat) : Int) := by unfold wrap64; omega
    by_cases hb : bitB b i = true
    · rw [if_pos hb, if_pos hb] at hK
      obtain ⟨K', hK'⟩ := kept_l1 hg b0 b1 _ _ _ i (by omega) ⟨K, hK⟩ g.length 0 (by omega)
      refine ⟨K' + 1, ?_⟩
      rw [poldertop_kept31.l0, if_pos (by omega), if_pos (by omega), if_neg (fun h => by rw [bit_nil b i b0 b1 (by omega), hb] at h; cases h)]
      exact hK'
    · rw [if_neg hb, if_neg hb] at hK
      refine ⟨K + 1, ?_⟩
      rw [poldertop_kept31.l0, if_pos (by omega), if_pos (by omega), if_pos ((bit_nil b i b0 b1 (by omega)).2 (by simpa using hb)), hw]
      exact hK
end
theorem kept_is (l : List S73) (g : List S52) (hold win b n : Int) (hg : g.length ≤ 60) (b0 : 0 ≤ b) (b1 : b < 9223372036854775808) :
    ∃ K, poldertop_kept31.f K l g hold win b n = some (keepC hold win g b (wrap64 ((l.length : Int) * win)) g.length, decide (mostN g b g.length ≤ n)) :=
  kept_l0 hg b0 b1 (wrap64 ((l.length : Int) * win)) g.length 0 (by omega)
end Go.Proofs.Ytdkfmbammdmohaa.PPolicyCosts

namespace Go.Proofs.Ytdkfmbammdmohaa.PPolicyCosts
open Go.RowKit Go.Proofs.YtdkfmbammdmohaaW.PrintWords Go.Proofs.YtdkfmbammdmohaaW.PrintLast Go.Proofs.YtdkfmbammdmohaaW.PrintMore
open Go.Proofs.YtdkfmbammdmohaaM Go.Proofs.YtdkfmbammdmohaaS
set_option linter.unusedVariables false
set_option linter.unusedSimpArgs false

/-- a gap of few ticks -/
def fewG (g : S52) : Prop := 0 ≤ g.f1 ∧ g.f1 < g.f2 ∧ g.f2 ≤ 80
theorem few_mul {hold : Int} {g : S52} (hg : fewG g) (h0 : 0 ≤ hold) (h1 : hold < 8) : 0 ≤ hold * (g.f2 - g.f1) ∧ hold * (g.f2 - g.f1) ≤ 640 := by
  obtain ⟨a, b, c⟩ := hg
  have h2 : hold * (g.f2 - g.f1) ≤ 8 * 80 := Int.mul_le_mul (by omega) (by omega) (by omega) (by omega)
  have h3 : 0 ≤ hold * (g.f2 - g.f1) := Int.mul_nonneg h0 (by omega)
  omega
theorem few_sav {hold win : Int} {g : S52} (hg : fewG g) (h0 : 0 ≤ hold) (h1 : hold < 8) (w0 : 0 ≤ win) (w1 : win < 40) : savW hold win g = win - hold * (g.f2 - g.f1) := by
  have hm := few_mul hg h0 h1
  obtain ⟨a, b, c⟩ := hg
  have h2 : wrap64 (g.f2 - g.f1) = g.f2 - g.f1 := by unfold wrap64; omega
  have h3 : (g.f2 - g.f1) * hold = hold * (g.f2 - g.f1) := Int.mul_comm _ _
  unfold savW
  simp only [h2, h3]
  generalize hold * (g.f2 - g.f1) = m at *
  unfold wrap64
  omega
/-- what keeping a gap adds -/
theorem few_add {hold win : Int} {g : S52} (hg : fewG g) (h0 : 0 ≤ hold) (h1 : hold < 8) (w0 : 0 ≤ win) (w1 : win < 40) : wrap64 (wrap64 (hold * wrap64 (g.f2 - g.f1)) - win) = hold * (g.f2 - g.f1) - win := by
  have hm := few_mul hg h0 h1
  obtain ⟨a, b, c⟩ := hg
  have h2 : wrap64 (g.f2 - g.f1) = g.f2 - g.f1 := by unfold wrap64; omega
  rw [h2]
  generalize hold * (g.f2 - g.f1) = m at *
  unfold wrap64
  omega
theorem keep_least {hold win base : Int} {g : List S52} (hg : ∀ x ∈ g, fewG x) (hl : g.length ≤ 60) (h0 : 0 ≤ hold) (h1 : hold < 8) (w0 : 0 ≤ win) (w1 : win < 40) (c0 : 0 ≤ base) (c1 : base ≤ 400) (b : Int) :
    ∀ k, k ≤ g.length → (base - 40 * k ≤ keepC hold win g b base k ∧ keepC hold win g b base k ≤ base + 640 * k) ∧ (base - 40 * k ≤ (leastR hold win base g k).1 ∧ (leastR hold win base g k).1 ≤ base) ∧ (leastR hold win base g k).1 ≤ keepC hold win g b base k ∧
      ((∀ i : Nat, i < k → (bitB b i = true ↔ 0 ≤ savW hold win (rd_T52 g (i : Int)))) → keepC hold win g b base k = (leastR hold win base g k).1)
  | 0, _ => by simp [keepC, leastR]
  | k + 1, hk => by
    obtain ⟨a1, a2, a3, a4⟩ := keep_least hg hl h0 h1 w0 w1 c0 c1 b k (by omega)
    have hf : fewG (rd_T52 g (k : Int)) := by rw [rd52_is g k (by omega)]; exact hg _ (List.getElem_mem _)
    have hs := few_sav hf h0 h1 w0 w1
    have hm := few_mul hf h0 h1
    have ha := few_add hf h0 h1 w0 w1
    rw [keepC, leastR_succ, ha, hs]
    have h4 : (∀ i : Nat, i < k + 1 → (bitB b i = true ↔ 0 ≤ savW hold win (rd_T52 g (i : Int)))) → (∀ i : Nat, i < k → (bitB b i = true ↔ 0 ≤ savW hold win (rd_T52 g (i : Int)))) ∧ (bitB b k = true ↔ 0 ≤ savW hold win (rd_T52 g (k : Int))) := fun h => ⟨fun i hi => h i (by omega), h k (by omega)⟩
    rw [hs] at h4
    generalize hold * ((rd_T52 g (k : Int)).f2 - (rd_T52 g (k : Int)).f1) = m at *
    generalize keepC hold win g b base k = kc at *
    generalize (leastR hold win base g k) = lr at *
    by_cases hb : bitB b k = true
    · rw [if_pos hb]
      have e1 : wrap64 (kc + (m - win)) = kc + (m - win) := by unfold wrap64; omega
      rw [e1]
      by_cases hp : 0 ≤ win - m
      · rw [if_pos hp]
        have e2 : wrap64 (lr.1 - (win - m)) = lr.1 - (win - m) := by unfold wrap64; omega
        simp only [e2]
        refine ⟨by omega, by omega, by omega, fun h => ?_⟩
        have := a4 (h4 h).1
        omega
      · rw [if_neg hp]
        refine ⟨by omega, by omega, by omega, fun h => ?_⟩
        exact absurd ((h4 h).2.1 hb) hp
    · rw [if_neg hb]
      by_cases hp : 0 ≤ win - m
      · rw [if_pos hp]
        have e2 : wrap64 (lr.1 - (win - m)) = lr.1 - (win - m) := by unfold wrap64; omega
        simp only [e2]
        refine ⟨by omega, by omega, by omega, fun h => ?_⟩
        exact absurd ((h4 h).2.2 hp) hb
      · rw [if_neg hp]
        exact ⟨by omega, by omega, by omega, fun h => a4 (h4 h).1⟩
end Go.Proofs.Ytdkfmbammdmohaa.PPolicyCosts

namespace Go.Proofs.Ytdkfmbammdmohaa.PPolicyCosts
open Go.RowKit Go.Proofs.YtdkfmbammdmohaaW.PrintWords Go.Proofs.YtdkfmbammdmohaaW.PrintLast Go.Proofs.YtdkfmbammdmohaaW.PrintMore
open Go.Proofs.YtdkfmbammdmohaaM Go.Proofs.YtdkfmbammdmohaaS
set_option linter.unusedVariables false
set_option linter.unusedSimpArgs false

/-- the bits of a set -/
def bitsN (p : Nat → Bool) : Nat → Int
  | 0 => 0
  | i + 1 => if p i = true then bitsN p i + 2 ^ i else bitsN p i
theorem two_pos (k : Nat) : (0 : Int) < 2 ^ k := Int.pow_pos (by decide)
theorem bitsN_bd (p : Nat → Bool) : ∀ k, 0 ≤ bitsN p k ∧ bitsN p k < 2 ^ k
  | 0 => by simp [bitsN]
  | k + 1 => by
    have ih := bitsN_bd p k
    have := two_pos k
    rw [bitsN, Int.pow_succ]
    split <;> omega
theorem bitB_far (b : Int) (k i : Nat) (b0 : 0 ≤ b) (b1 : b < 2 ^ k) (h : k ≤ i) : bitB b i = false := by
  have h2 : (2 : Int) ^ k ≤ 2 ^ i := by
    obtain ⟨d, rfl⟩ : ∃ d, i = k + d := ⟨i - k, by omega⟩
    have h3 := two_pos d
    have h4 := two_pos k
    rw [Int.pow_add]
    have := Int.mul_le_mul_of_nonneg_left (show (1 : Int) ≤ 2 ^ d by omega) (show (0 : Int) ≤ 2 ^ k by omega)
    omega
  have h3 : b / 2 ^ i = 0 := Int.ediv_eq_zero_of_lt b0 (by omega)
  unfold bitB
  rw [h3]
  rfl
theorem bitB_add (x : Int) (k i : Nat) (x0 : 0 ≤ x) (x1 : x < 2 ^ k) (h : i ≤ k) : bitB (x + 2 ^ k) i = if i = k then true else bitB x i := by
  unfold bitB
  by_cases he : i = k
  · subst he
    rw [if_pos rfl]
    have h1 : (x + 2 ^ i) / 2 ^ i = 1 := by
      have := Int.add_mul_ediv_left x 1 (show (2 : Int) ^ i ≠ 0 by have := two_pos i; omega)
      rw [Int.mul_one] at this
      rw [this, Int.ediv_eq_zero_of_lt x0 x1]
      rfl
    rw [h1]
    rfl
  · rw [if_neg he]
    obtain ⟨c, rfl⟩ : ∃ c, k = i + (c + 1) := ⟨k - i - 1, by omega⟩
    have h1 : (x + 2 ^ (i + (c + 1))) / 2 ^ i = x / 2 ^ i + 2 ^ c * 2 := by
      rw [Int.pow_add, Int.pow_succ]
      exact Int.add_mul_ediv_left x _ (by have := two_pos i; omega)
    rw [h1, Int.add_mul_emod_self_right]
theorem bitsN_bit (p : Nat → Bool) : ∀ k i, i < k → bitB (bitsN p k) i = p i
  | 0, i, h => by omega
  | k + 1, i, h => by
    have hb := bitsN_bd p k
    rw [bitsN]
    by_cases hi : i = k
    · subst hi
      by_cases hp : p i = true
      · rw [if_pos hp, bitB_add _ _ _ hb.1 hb.2 (by omega), if_pos rfl, hp]
      · rw [if_neg hp, bitB_far _ _ _ hb.1 hb.2 (Nat.le_refl _)]
        simpa using hp
    · by_cases hp : p k = true
      · rw [if_pos hp, bitB_add _ _ _ hb.1 hb.2 (by omega), if_neg hi]
        exact bitsN_bit p k i (by omega)
      · rw [if_neg hp]
        exact bitsN_bit p k i (by omega)
theorem lst_more (b : Int) (m : Nat) (h : ∀ i, m ≤ i → bitB b i = false) : ∀ d, lstU b (m + d) = lstU b m
  | 0 => rfl
  | d + 1 => by
    rw [← Nat.add_assoc, lstU_succ, h (m + d) (by omega), if_neg (by decide), lst_more b m h d]
theorem lst_least (hold win base : Int) (g : List S52) (b : Int) : ∀ k, (∀ i : Nat, i < k → (bitB b i = true ↔ 0 ≤ savW hold win (rd_T52 g (i : Int)))) → (leastR hold win base g k).2 = lstU b k
  | 0, _ => rfl
  | k + 1, h => by
    have ih := lst_least hold win base g b k (fun i hi => h i (by omega))
    have hk := h k (by omega)
    rw [leastR_succ, lstU_succ]
    by_cases hs : 0 ≤ savW hold win (rd_T52 g (k : Int))
    · rw [if_pos hs, if_pos (hk.2 hs), ih]
    · rw [if_neg hs, if_neg (fun h2 => hs (hk.1 h2)), ih]
/-- the bits of the gaps that Least keeps -/
def leastB (hold win : Int) (g : List S52) : Int := bitsN (fun i => decide (0 ≤ savW hold win (rd_T52 g (i : Int)))) g.length
theorem leastB_list (hold win base : Int) (g : List S52) (hl : g.length ≤ 8) : (leastR hold win base g g.length).2 = lstU (leastB hold win g) 8 := by
  have hb := bitsN_bd (fun i => decide (0 ≤ savW hold win (rd_T52 g (i : Int)))) g.length
  obtain ⟨d, hd⟩ : ∃ d, 8 = g.length + d := ⟨8 - g.length, by omega⟩
  have hb2 : 0 ≤ leastB hold win g ∧ leastB hold win g < 2 ^ g.length := hb
  rw [hd, lst_more _ g.length (fun i hi => bitB_far _ _ _ hb2.1 hb2.2 hi) d]
  refine lst_least hold win base g _ g.length (fun i hi => ?_)
  unfold leastB
  rw [bitsN_bit _ _ _ hi]
  simp
end Go.Proofs.Ytdkfmbammdmohaa.PPolicyCosts
