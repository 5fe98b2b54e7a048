/- live31 under keep, drop and age: page by page, tick by tick. -/
import Derived.Test.YtdkfmbammdmohaaY4
import Derived.Test.YtdkfmbammdmohaaY3
namespace Go.Proofs.Ytdkfmbammdmohaa.PPolicyCosts
open Go.RowKit Go.Proofs.YtdkfmbammdmohaaW.PrintWords Go.Proofs.YtdkfmbammdmohaaW.PrintLast Go.Proofs.YtdkfmbammdmohaaW.PrintMore
open Go.Proofs.YtdkfmbammdmohaaM Go.Proofs.YtdkfmbammdmohaaS
set_option linter.unusedVariables false
set_option linter.unusedSimpArgs false

/-- the ticks for which a page is held behind its last use, before tick t -/
def tlA (A t : Int) : Option Int → Int
  | none => 0
  | some e => if e < t then mn A (t - e) else 0
/-- what the uses have cost before tick t -/
def costT (hold win A t : Int) (P : List S73) : Int := cntOf P * win + sumG hold win A (gapsOf P) + (tlA A t (lastOf P 0) + tlA A t (lastOf P 1) + tlA A t (lastOf P 2)) * hold
/-- how a page stands before tick t -/
def StP (A t : Int) (o : Option Int) (used held : Bool) (since : Int) : Prop := match o with
  | none => used = false ∧ held = false
  | some e => (t ≤ e → used = true ∧ held = true) ∧ (e < t → used = false ∧ held = decide (t - 1 - e < A) ∧ since = e)
structure InvL (hold win A t : Int) (P : List S73) (s : LvS) : Prop where
  pg : ∀ p : Int, 0 ≤ p → p < 3 → StP A t (lastOf P p) (s.used p) (s.held p) (s.since p)
  co : s.cost = wrap64 (costT hold win A t P)
theorem wv_add (a b : Int) : wrap64 (wrap64 a + b) = wrap64 (a + b) := by unfold wrap64; omega
theorem gapC_run (hold win A p e t : Int) : gapC hold win A ⟨p, e, t⟩ = mn A (t - e) * hold + (if t - 1 - e < A then 0 else win) := by
  unfold gapC
  simp only
  have : (mn A (t - e) < t - e) ↔ ¬ (t - 1 - e < A) := by unfold mn; split <;> omega
  by_cases h : t - 1 - e < A
  · rw [if_pos h, if_neg (fun h2 => this.1 h2 h)]
  · rw [if_neg h, if_pos (this.2 h)]
theorem costT_begin (hold win A t : Int) (P : List S73) (u : S73) (h0 : 0 ≤ u.f0) (h3 : u.f0 < 3) (hf : u.f1 = t) (ht : t < u.f2) (hl : ∀ e, lastOf P u.f0 = some e → e < t) :
    costT hold win A t (P ++ [u]) = costT hold win A t P + (match lastOf P u.f0 with | none => win | some e => if t - 1 - e < A then 0 else win) := by
  unfold costT
  rw [cntOf_snoc, gapsOf_snoc, lastOf_snoc, lastOf_snoc, lastOf_snoc]
  have hz : tlA A t (some u.f2) = 0 := by unfold tlA; simp only; rw [if_neg (by omega)]
  have hsg : sumG hold win A (gapsOf P ++ gapOf P u) = sumG hold win A (gapsOf P) + sumG hold win A (gapOf P u) := by simp [sumG]
  rw [hsg]
  have hcase : (u.f0 = 0 ∨ u.f0 = 1) ∨ u.f0 = 2 := by omega
  cases hlo : lastOf P u.f0 with
  | none =>
    have hg : gapOf P u = [] := by unfold gapOf; rw [hlo]
    have h2 : sumG hold win A [] = 0 := rfl
    have hz0 : tlA A t none = 0 := rfl
    have hc : (((cntOf P + (if (none : Option Int).isSome = true then 0 else 1)) : Nat) : Int) * win = cntOf P * win + win := by simp [Int.add_mul]
    rw [hg, h2, hc]
    rcases hcase with (h | h) | h
    all_goals
      rw [h] at hlo
      rw [h, hlo]
      simp [hz, hz0]
      try omega
  | some e =>
    have he := hl e hlo
    have hg : gapOf P u = [⟨u.f0, e, t⟩] := by unfold gapOf; rw [hlo, hf]
    have h2 : sumG hold win A [⟨u.f0, e, t⟩] = mn A (t - e) * hold + (if t - 1 - e < A then 0 else win) := by
      rw [← gapC_run hold win A u.f0 e t]
      simp [sumG]
    have hc : (((cntOf P + (if (some e).isSome = true then 0 else 1)) : Nat) : Int) * win = cntOf P * win := by simp
    have ht2 : tlA A t (some e) = mn A (t - e) := by unfold tlA; simp only; rw [if_pos he]
    rw [hg, h2, hc]
    simp only
    generalize (if t - 1 - e < A then 0 else win) = v
    rcases hcase with (h | h) | h
    all_goals
      rw [h] at hlo
      rw [h, hlo]
      simp [hz, ht2, Int.add_mul]
      omega
theorem inv_begin {hold win A t : Int} {P : List S73} {s : LvS} (h : InvL hold win A t P s) (u : S73) (h0 : 0 ≤ u.f0) (h3 : u.f0 < 3) (hf : u.f1 = t) (ht : t < u.f2) (hl : ∀ e, lastOf P u.f0 = some e → e < t) :
    InvL hold win A t (P ++ [u]) (lvBegin win s u.f0) := by
  have hst := h.pg u.f0 h0 h3
  constructor
  · intro p p0 p3
    rw [lastOf_snoc]
    unfold lvBegin updF
    simp only
    by_cases hp : p = u.f0
    · subst hp
      rw [if_pos rfl, if_pos rfl, if_pos rfl]
      exact ⟨fun _ => ⟨rfl, rfl⟩, fun h2 => by omega⟩
    · rw [if_neg (fun h2 => hp h2.symm), if_neg hp, if_neg hp]
      exact h.pg p p0 p3
  · rw [costT_begin hold win A t P u h0 h3 hf ht hl]
    unfold lvBegin
    simp only
    rw [h.co]
    cases hlo : lastOf P u.f0 with
    | none =>
      rw [hlo] at hst
      rw [hst.2, if_neg (by decide), wv_add]
    | some e =>
      rw [hlo] at hst
      have h2 := (hst.2 (hl e hlo)).2.1
      rw [h2]
      simp only [decide_eq_true_eq]
      by_cases hc : t - 1 - e < A
      · rw [if_pos hc, if_pos hc, Int.add_zero]
      · rw [if_neg hc, if_neg hc, wv_add]
end Go.Proofs.Ytdkfmbammdmohaa.PPolicyCosts

namespace Go.Proofs.Ytdkfmbammdmohaa.PPolicyCosts
open Go.RowKit Go.Proofs.YtdkfmbammdmohaaW.PrintWords Go.Proofs.YtdkfmbammdmohaaW.PrintLast Go.Proofs.YtdkfmbammdmohaaW.PrintMore
open Go.Proofs.YtdkfmbammdmohaaM Go.Proofs.YtdkfmbammdmohaaS
set_option linter.unusedVariables false
set_option linter.unusedSimpArgs false

theorem take_snoc (l : List S73) (i : Nat) (h : i < l.length) : l.take (i + 1) = l.take i ++ [rd_T73 l (i : Int)] := by
  rw [rd73x_is l i h, List.take_succ_eq_append_getElem h]
theorem begin_loop {hold win A t : Int} {l : List S73} {q q' : Nat} {s : LvS} (hqq : q ≤ q') (hql : q' ≤ l.length)
    (hq : ∀ i : Nat, i < l.length → ((rd_T73 l (i : Int)).f1 = t ↔ q ≤ i ∧ i < q'))
    (hu : ∀ i : Nat, i < l.length → 0 ≤ (rd_T73 l (i : Int)).f0 ∧ (rd_T73 l (i : Int)).f0 < 3 ∧ (rd_T73 l (i : Int)).f1 < (rd_T73 l (i : Int)).f2 ∧ ∀ e, lastOf (l.take i) (rd_T73 l (i : Int)).f0 = some e → e < (rd_T73 l (i : Int)).f1)
    (h : InvL hold win A t (l.take q) s) :
    ∀ i, i ≤ l.length → InvL hold win A t (l.take (max q (min i q'))) (beginN l win t s i)
  | 0, _ => by
    have : max q (min 0 q') = q := by omega
    rw [this]
    exact h
  | i + 1, hi => by
    have ih := begin_loop hqq hql hq hu h i (by omega)
    have hq' := hq i (by omega)
    obtain ⟨u0, u3, u12, ul⟩ := hu i (by omega)
    rw [beginN]
    by_cases hf : (rd_T73 l (i : Int)).f1 = t
    · have hi2 := hq'.1 hf
      have e1 : max q (min (i + 1) q') = i + 1 := by omega
      have e2 : max q (min i q') = i := by omega
      rw [e2] at ih
      rw [if_pos hf, e1, take_snoc l i (by omega)]
      exact inv_begin ih _ u0 u3 hf (by omega) (fun e he => by have := ul e he; omega)
    · have hi2 : ¬ (q ≤ i ∧ i < q') := fun h2 => hf (hq'.2 h2)
      have e1 : max q (min (i + 1) q') = max q (min i q') := by omega
      rw [if_neg hf, e1]
      exact ih
def endsAt (l : List S73) (t p : Int) : Bool := l.any (fun u => u.f0 == p && u.f2 == t)
theorem endN_is (l : List S73) (t : Int) (s : LvS) : ∀ i, i ≤ l.length →
    (∀ p, (endN l t s i).used p = if endsAt (l.take i) t p = true then false else s.used p) ∧
    (∀ p, (endN l t s i).since p = if endsAt (l.take i) t p = true then t else s.since p) ∧ (endN l t s i).held = s.held ∧ (endN l t s i).cost = s.cost
  | 0, _ => by simp [endN, endsAt]
  | i + 1, hi => by
    obtain ⟨h1, h2, h3, h4⟩ := endN_is l t s i (by omega)
    have he : ∀ p, endsAt (l.take (i + 1)) t p = (endsAt (l.take i) t p || ((rd_T73 l (i : Int)).f0 == p && (rd_T73 l (i : Int)).f2 == t)) := by
      intro p
      unfold endsAt
      rw [take_snoc l i (by omega), List.any_append]
      simp
    rw [endN]
    by_cases hf : (rd_T73 l (i : Int)).f2 = t
    · rw [if_pos hf]
      unfold lvEnd updF
      refine ⟨fun p => ?_, fun p => ?_, h3, h4⟩
      · simp only
        rw [he p, h1 p]
        by_cases hp : p = (rd_T73 l (i : Int)).f0
        · simp [hp, hf]
        · have hp2 : ¬ (rd_T73 l (i : Int)).f0 = p := fun h => hp h.symm
          simp [hp, hp2]
      · simp only
        rw [he p, h2 p]
        by_cases hp : p = (rd_T73 l (i : Int)).f0
        · simp [hp, hf]
        · have hp2 : ¬ (rd_T73 l (i : Int)).f0 = p := fun h => hp h.symm
          simp [hp, hp2]
    · rw [if_neg hf]
      refine ⟨fun p => ?_, fun p => ?_, h3, h4⟩
      · rw [he p, h1 p]; simp [hf]
      · rw [he p, h2 p]; simp [hf]
end Go.Proofs.Ytdkfmbammdmohaa.PPolicyCosts

namespace Go.Proofs.Ytdkfmbammdmohaa.PPolicyCosts
open Go.RowKit Go.Proofs.YtdkfmbammdmohaaW.PrintWords Go.Proofs.YtdkfmbammdmohaaW.PrintLast Go.Proofs.YtdkfmbammdmohaaW.PrintMore
open Go.Proofs.YtdkfmbammdmohaaM Go.Proofs.YtdkfmbammdmohaaS
set_option linter.unusedVariables false
set_option linter.unusedSimpArgs false

theorem drop_is (kind age t : Int) (s : LvS) : ∀ k : Nat, (dropN kind age t s k).used = s.used ∧ (dropN kind age t s k).since = s.since ∧ (dropN kind age t s k).cost = s.cost ∧
    (∀ p : Int, 0 ≤ p → (dropN kind age t s k).held p = (s.held p && !(decide (p < k) && goesB kind age t s p)))
  | 0 => ⟨rfl, rfl, rfl, fun p p0 => by
      have : ¬ p < ((0 : Nat) : Int) := by omega
      simp [dropN]
      intro h
      omega⟩
  | k + 1 => by
    obtain ⟨h1, h2, h3, h4⟩ := drop_is kind age t s k
    have hk : (dropN kind age t s k).held (k : Int) = s.held (k : Int) := by rw [h4 _ (by omega)]; simp
    have hg : goesB kind age t (dropN kind age t s k) (k : Int) = goesB kind age t s (k : Int) := by unfold goesB idleB; rw [h1, h2, hk]
    rw [dropN, hg]
    by_cases hgo : goesB kind age t s (k : Int) = true
    · rw [if_pos hgo]
      refine ⟨h1, h2, h3, fun p p0 => ?_⟩
      unfold lvDrop updF
      simp only
      by_cases hp : p = (k : Int)
      · subst hp
        have : ((k : Int) < ((k + 1 : Nat) : Int)) := by omega
        rw [if_pos rfl, hgo, decide_eq_true this]
        simp
      · rw [if_neg hp, h4 p p0]
        have : decide (p < (k : Int)) = decide (p < ((k + 1 : Nat) : Int)) := by
          by_cases h : p < (k : Int)
          · rw [decide_eq_true h, decide_eq_true (by omega)]
          · rw [decide_eq_false h, decide_eq_false (by omega)]
        rw [this]
    · rw [if_neg hgo]
      refine ⟨h1, h2, h3, fun p p0 => ?_⟩
      rw [h4 p p0]
      by_cases hp : p = (k : Int)
      · subst hp
        have hgo2 : goesB kind age t s (k : Int) = false := by simpa using hgo
        rw [hgo2]
        simp
      · have : decide (p < (k : Int)) = decide (p < ((k + 1 : Nat) : Int)) := by
          by_cases h : p < (k : Int)
          · rw [decide_eq_true h, decide_eq_true (by omega)]
          · rw [decide_eq_false h, decide_eq_false (by omega)]
        rw [this]
theorem pay_is (hold c : Int) (s : LvS) (h : s.cost = wrap64 c) : ∀ k : Nat, payN hold s k = wrap64 (c + (idleN s k : Int) * hold)
  | 0 => by rw [payN, idleN, h]; simp
  | k + 1 => by
    have ih := pay_is hold c s h k
    rw [payN, idleN, ih]
    by_cases hi : idleB s (k : Int) = true
    · rw [if_pos hi, if_pos hi, wv_add]
      congr 1
      rw [Int.natCast_add, Int.add_mul]
      omega
    · rw [if_neg hi, if_neg hi]
end Go.Proofs.Ytdkfmbammdmohaa.PPolicyCosts

namespace Go.Proofs.Ytdkfmbammdmohaa.PPolicyCosts
open Go.RowKit Go.Proofs.YtdkfmbammdmohaaW.PrintWords Go.Proofs.YtdkfmbammdmohaaW.PrintLast Go.Proofs.YtdkfmbammdmohaaW.PrintMore
open Go.Proofs.YtdkfmbammdmohaaM Go.Proofs.YtdkfmbammdmohaaS
set_option linter.unusedVariables false
set_option linter.unusedSimpArgs false

theorem page_tick {A t : Int} (A0 : 0 ≤ A) {o : Option Int} {used held : Bool} {since : Int} (h : StP A t o used held since) {eb : Bool} (heb : eb = true ↔ o = some t)
    {used1 held2 : Bool} {since1 : Int} (hu : used1 = if eb = true then false else used) (hs : since1 = if eb = true then t else since) (hh : held2 = (held && !((held && !used1) && decide (A ≤ t - since1)))) :
    StP A (t + 1) o used1 held2 since1 ∧ tlA A (t + 1) o = tlA A t o + (if (held2 && !used1) = true then 1 else 0) := by
  cases o with
  | none =>
    have he : eb = false := by
      cases eb with
      | false => rfl
      | true => have := heb.1 rfl; cases this
    obtain ⟨h1, h2⟩ := h
    subst he h1 h2
    simp at hu hs hh
    subst hu hh
    exact ⟨⟨rfl, rfl⟩, rfl⟩
  | some e =>
    obtain ⟨h1, h2⟩ := h
    have hm1 : tlA A (t + 1) (some e) = if e < t + 1 then mn A (t + 1 - e) else 0 := rfl
    have hm2 : tlA A t (some e) = if e < t then mn A (t - e) else 0 := rfl
    rw [hm1, hm2]
    by_cases c1 : e < t
    · obtain ⟨u1, u2, u3⟩ := h2 c1
      have he : eb = false := by
        cases eb with
        | false => rfl
        | true => have := heb.1 rfl; injection this; omega
      subst he u1 u2 u3
      simp at hu hs
      subst hu hs
      have hd : held2 = decide (t - since1 < A) := by
        rw [hh]
        by_cases c2 : t - since1 < A
        · have c3 : ¬ A ≤ t - since1 := by omega
          have c4 : t - 1 - since1 < A := by omega
          simp [c2, c3, c4]
        · have c3 : A ≤ t - since1 := by omega
          simp [c2, c3]
      rw [hd]
      refine ⟨⟨fun h => by omega, fun _ => ⟨rfl, ?_, rfl⟩⟩, ?_⟩
      · rw [show t + 1 - 1 - since1 = t - since1 by omega]
      · rw [if_pos (by omega), if_pos c1]
        unfold mn
        by_cases c2 : t - since1 < A
        · simp [c2]; split <;> omega
        · simp [c2]; omega
    · obtain ⟨u1, u2⟩ := h1 (by omega)
      subst u1 u2
      by_cases c2 : e = t
      · subst c2
        have he : eb = true := heb.2 rfl
        subst he
        simp at hu hs
        subst hu hs
        have hd : held2 = decide (0 < A) := by
          rw [hh]
          by_cases c3 : 0 < A
          · have c4 : ¬ A ≤ 0 := by omega
            simp [c3, c4]
          · have c4 : A ≤ 0 := by omega
            simp [c3, c4]
        rw [hd]
        refine ⟨⟨fun h => by omega, fun _ => ⟨rfl, ?_, rfl⟩⟩, ?_⟩
        · rw [show since1 + 1 - 1 - since1 = 0 by omega]
        · rw [if_pos (by omega), if_neg c1]
          unfold mn
          by_cases c3 : 0 < A
          · simp [c3]; omega
          · simp [c3]; omega
      · have he : eb = false := by
          cases eb with
          | false => rfl
          | true => have := heb.1 rfl; injection this; omega
        subst he
        simp at hu hs
        subst hu hs
        simp at hh
        subst hh
        rw [if_neg (by omega), if_neg c1]
        exact ⟨⟨fun _ => ⟨rfl, rfl⟩, fun h => by omega⟩, rfl⟩
end Go.Proofs.Ytdkfmbammdmohaa.PPolicyCosts

namespace Go.Proofs.Ytdkfmbammdmohaa.PPolicyCosts
open Go.RowKit Go.Proofs.YtdkfmbammdmohaaW.PrintWords Go.Proofs.YtdkfmbammdmohaaW.PrintLast Go.Proofs.YtdkfmbammdmohaaW.PrintMore
open Go.Proofs.YtdkfmbammdmohaaM Go.Proofs.YtdkfmbammdmohaaS
set_option linter.unusedVariables false
set_option linter.unusedSimpArgs false

theorem tick_inv {hold win kind age most A t : Int} {l : List S73} {q' : Nat} {s1 : LvS} (A0 : 0 ≤ A) (h4 : kind ≠ 4)
    (hgo : ∀ s p, (idleB s p = true → 0 ≤ s.since p ∧ s.since p ≤ t) → goesB kind age t s p = (idleB s p && decide (A ≤ t - s.since p)))
    (hend : ∀ p, endsAt l t p = true ↔ lastOf (l.take q') p = some t) (hpos : ∀ p e, lastOf (l.take q') p = some e → 0 ≤ e)
    (h : InvL hold win A t (l.take q') s1) :
    InvL hold win A (t + 1) (l.take q') ⟨(dropN kind age t (endN l t s1 l.length) 3).used, (dropN kind age t (endN l t s1 l.length) 3).held, (dropN kind age t (endN l t s1 l.length) 3).since, payN hold (dropN kind age t (endN l t s1 l.length) 3) 3⟩ := by
  obtain ⟨e1, e2, e3, e4⟩ := endN_is l t s1 l.length (Nat.le_refl _)
  rw [List.take_length] at e1 e2
  generalize endN l t s1 l.length = s2 at *
  obtain ⟨d1, d2, d3, d4⟩ := drop_is kind age t s2 3
  generalize dropN kind age t s2 3 = s3 at *
  have key : ∀ p : Int, 0 ≤ p → p < 3 → StP A (t + 1) (lastOf (l.take q') p) (s3.used p) (s3.held p) (s3.since p) ∧ tlA A (t + 1) (lastOf (l.take q') p) = tlA A t (lastOf (l.take q') p) + (if idleB s3 p = true then 1 else 0) := by
    intro p p0 p3
    have hst := h.pg p p0 p3
    have hu : s3.used p = if endsAt l t p = true then false else s1.used p := by rw [d1]; exact e1 p
    have hs : s3.since p = if endsAt l t p = true then t else s1.since p := by rw [d2]; exact e2 p
    have hrng : idleB s2 p = true → 0 ≤ s2.since p ∧ s2.since p ≤ t := by
      intro hi
      rw [d1] at hu
      rw [d2] at hs
      unfold idleB at hi
      rw [e3, hu] at hi
      rw [hs]
      by_cases hb : endsAt l t p = true
      · rw [if_pos hb]
        have := hpos p t ((hend p).1 hb)
        omega
      · rw [if_neg hb] at hi ⊢
        cases hlo : lastOf (l.take q') p with
        | none =>
          rw [hlo] at hst
          rw [hst.2] at hi
          simp at hi
        | some e =>
          rw [hlo] at hst
          have := hpos p e hlo
          by_cases hc : t ≤ e
          · rw [(hst.1 hc).1] at hi
            simp at hi
          · have h5 := (hst.2 (by omega)).2.2
            omega
    have hh : s3.held p = (s1.held p && !((s1.held p && !s3.used p) && decide (A ≤ t - s3.since p))) := by
      rw [d4 p p0, hgo s2 p hrng, d1, d2, e3]
      have h3 : decide (p < ((3 : Nat) : Int)) = true := decide_eq_true p3
      rw [h3, Bool.true_and]
      unfold idleB
      rw [e3]
    exact page_tick A0 hst (hend p) hu hs hh
  constructor
  · exact fun p p0 p3 => (key p p0 p3).1
  · show payN hold s3 3 = _
    rw [pay_is hold (costT hold win A t (l.take q')) s3 (by rw [d3, e4]; exact h.co) 3]
    congr 1
    have k0 := (key 0 (by decide) (by decide)).2
    have k1 := (key 1 (by decide) (by decide)).2
    have k2 := (key 2 (by decide) (by decide)).2
    have hid : (idleN s3 3 : Int) = (if idleB s3 0 = true then 1 else 0) + (if idleB s3 1 = true then 1 else 0) + (if idleB s3 2 = true then 1 else 0) := by
      show ((if idleB s3 2 = true then (if idleB s3 1 = true then (if idleB s3 0 = true then 0 + 1 else 0) + 1 else (if idleB s3 0 = true then 0 + 1 else 0)) + 1 else (if idleB s3 1 = true then (if idleB s3 0 = true then 0 + 1 else 0) + 1 else (if idleB s3 0 = true then 0 + 1 else 0)) : Nat) : Int) = _
      cases idleB s3 0 <;> cases idleB s3 1 <;> cases idleB s3 2 <;> rfl
    unfold costT
    rw [k0, k1, k2, hid]
    generalize (if idleB s3 0 = true then (1 : Int) else 0) = i0
    generalize (if idleB s3 1 = true then (1 : Int) else 0) = i1
    generalize (if idleB s3 2 = true then (1 : Int) else 0) = i2
    simp only [Int.add_mul]
    omega
end Go.Proofs.Ytdkfmbammdmohaa.PPolicyCosts

namespace Go.Proofs.Ytdkfmbammdmohaa.PPolicyCosts
open Go.RowKit Go.Proofs.YtdkfmbammdmohaaW.PrintWords Go.Proofs.YtdkfmbammdmohaaW.PrintLast Go.Proofs.YtdkfmbammdmohaaW.PrintMore
open Go.Proofs.YtdkfmbammdmohaaM Go.Proofs.YtdkfmbammdmohaaS
set_option linter.unusedVariables false
set_option linter.unusedSimpArgs false

/-- how many uses begin before t -/
def qN (t : Int) : List S73 → Nat
  | [] => 0
  | a :: r => if a.f1 < t then qN t r + 1 else 0
theorem qN_le (t : Int) : ∀ l : List S73, qN t l ≤ l.length
  | [] => Nat.le_refl _
  | a :: r => by have := qN_le t r; rw [qN]; split <;> simp <;> omega
theorem qN_mono (t : Int) : ∀ l : List S73, qN t l ≤ qN (t + 1) l
  | [] => Nat.le_refl _
  | a :: r => by
    have := qN_mono t r
    rw [qN, qN]
    by_cases h : a.f1 < t
    · rw [if_pos h, if_pos (by omega)]; omega
    · rw [if_neg h]; omega
theorem qN_is (t : Int) : ∀ (l : List S73), l.Pairwise (fun a b => a.f1 ≤ b.f1) → ∀ (i : Nat) (h : i < l.length), l[i].f1 < t ↔ i < qN t l
  | [], _, i, h => by simp at h
  | a :: r, hp, i, h => by
    obtain ⟨h1, h2⟩ := List.pairwise_cons.1 hp
    rw [qN]
    cases i with
    | zero =>
      by_cases ha : a.f1 < t
      · rw [if_pos ha]; simp [ha]
      · rw [if_neg ha]; simp [ha]
    | succ i =>
      have hi : i < r.length := by simpa using h
      have ih := qN_is t r h2 i hi
      by_cases ha : a.f1 < t
      · rw [if_pos ha, List.getElem_cons_succ, ih]; omega
      · rw [if_neg ha, List.getElem_cons_succ]
        have := h1 _ (List.getElem_mem hi)
        omega
theorem qN_at (t : Int) (l : List S73) (hp : l.Pairwise (fun a b => a.f1 ≤ b.f1)) (i : Nat) (h : i < l.length) : (rd_T73 l (i : Int)).f1 = t ↔ qN t l ≤ i ∧ i < qN (t + 1) l := by
  rw [rd73x_is l i h]
  have h1 := qN_is t l hp i h
  have h2 := qN_is (t + 1) l hp i h
  omega
theorem qN_all (t : Int) : ∀ l : List S73, (∀ u ∈ l, u.f1 < t) → qN t l = l.length
  | [], _ => rfl
  | a :: r, h => by rw [qN, if_pos (h a (by simp)), qN_all t r (fun u hu => h u (by simp [hu]))]; simp
theorem qN_zero (l : List S73) (h : ∀ u ∈ l, 0 ≤ u.f1) : qN 0 l = 0 := by
  cases l with
  | nil => rfl
  | cons a r => rw [qN, if_neg (by have := h a (by simp); omega)]
end Go.Proofs.Ytdkfmbammdmohaa.PPolicyCosts

namespace Go.Proofs.Ytdkfmbammdmohaa.PPolicyCosts
open Go.RowKit Go.Proofs.YtdkfmbammdmohaaW.PrintWords Go.Proofs.YtdkfmbammdmohaaW.PrintLast Go.Proofs.YtdkfmbammdmohaaW.PrintMore
open Go.Proofs.YtdkfmbammdmohaaM Go.Proofs.YtdkfmbammdmohaaS
set_option linter.unusedVariables false
set_option linter.unusedSimpArgs false

/-- a trace of three pages -/
structure Tr3 (l : List S73) : Prop where
  srt : l.Pairwise (fun a b => a.f1 ≤ b.f1)
  dis : l.Pairwise (fun a b => a.f0 = b.f0 → a.f2 < b.f1)
  rng : ∀ u ∈ l, 0 ≤ u.f0 ∧ u.f0 < 3 ∧ 0 ≤ u.f1 ∧ u.f1 < u.f2 ∧ u.f2 ≤ 80
theorem take_rd (l : List S73) (i : Nat) (h : i < l.length) : l = l.take i ++ rd_T73 l (i : Int) :: l.drop (i + 1) := by
  rw [rd73x_is l i h, ← List.drop_eq_getElem_cons h, List.take_append_drop]
theorem Tr3.last {l : List S73} (h : Tr3 l) (i : Nat) (hi : i < l.length) (e : Int) (he : lastOf (l.take i) (rd_T73 l (i : Int)).f0 = some e) : e < (rd_T73 l (i : Int)).f1 := by
  obtain ⟨a, ha, h1, h2⟩ := lastOf_mem _ _ _ he
  have hd := h.dis
  rw [take_rd l i hi] at hd
  have := (List.pairwise_append.1 hd).2.2 a ha (rd_T73 l (i : Int)) (by simp) h1
  omega
theorem last_ge (p : Int) (P : List S73) : P.Pairwise (fun a b => a.f0 = b.f0 → a.f2 < b.f1) → (∀ w ∈ P, w.f1 < w.f2) → ∀ e, lastOf P p = some e → ∀ u ∈ P, u.f0 = p → u.f2 ≤ e := by
  refine snoc_ind (P := fun P => P.Pairwise (fun a b => a.f0 = b.f0 → a.f2 < b.f1) → (∀ w ∈ P, w.f1 < w.f2) → ∀ e, lastOf P p = some e → ∀ u ∈ P, u.f0 = p → u.f2 ≤ e) (by simp) ?_ P
  intro P w ih hd hr e he u hu hp
  have hd' := List.pairwise_append.1 hd
  rw [lastOf_snoc] at he
  by_cases hw : w.f0 = p
  · rw [if_pos hw] at he
    injection he with he
    rcases List.mem_append.1 hu with hu | hu
    · have := hd'.2.2 u hu w (by simp) (by omega)
      have := hr w (by simp)
      omega
    · obtain rfl : u = w := by simpa using hu
      omega
  · rw [if_neg hw] at he
    rcases List.mem_append.1 hu with hu | hu
    · exact ih hd'.1 (fun x hx => hr x (by simp [hx])) e he u hu hp
    · obtain rfl : u = w := by simpa using hu
      exact absurd hp hw
/-- a use that ends at t is the last one begun -/
theorem Tr3.ends {l : List S73} (h : Tr3 l) (t p : Int) : endsAt l t p = true ↔ lastOf (l.take (qN (t + 1) l)) p = some t := by
  have hmem : ∀ u ∈ l, u.f1 < t + 1 → u ∈ l.take (qN (t + 1) l) := by
    intro u hu hf
    obtain ⟨i, hi, rfl⟩ := List.getElem_of_mem hu
    have := (qN_is (t + 1) l h.srt i hi).1 hf
    exact List.mem_take_iff_getElem.2 ⟨i, by omega, rfl⟩
  constructor
  · intro he
    unfold endsAt at he
    obtain ⟨u, hu, h2⟩ := List.any_eq_true.1 he
    simp only [Bool.and_eq_true, beq_iff_eq] at h2
    have hr := h.rng u hu
    have hm := hmem u hu (by omega)
    cases hl : lastOf (l.take (qN (t + 1) l)) p with
    | none =>
      rw [last_find, List.find?_eq_none] at hl
      have := hl u hm
      simp [h2.1] at this
    | some e =>
      obtain ⟨v, hv, h5, h6⟩ := lastOf_mem _ _ _ hl
      obtain ⟨iv, hiv, rfl⟩ := List.mem_take_iff_getElem.1 hv
      obtain ⟨iu, hiu, rfl⟩ := List.getElem_of_mem hu
      have hvf := (qN_is (t + 1) l h.srt iv (by omega)).2 (by omega)
      have hge : l[iu].f2 ≤ e := last_ge p _ (List.Pairwise.sublist (List.take_sublist _ _) h.dis) (fun w hw => (h.rng w (List.mem_of_mem_take hw)).2.2.2.1) e hl _ hm h2.1
      have hdis := List.pairwise_iff_getElem.1 h.dis
      rcases Nat.lt_trichotomy iu iv with hlt | heq | hgt
      · have := hdis iu iv hiu (by omega) hlt (by rw [h2.1, h5])
        omega
      · subst heq
        rw [← h6, h2.2]
      · have := hdis iv iu (by omega) hiu hgt (by rw [h2.1, h5])
        omega
  · intro he
    obtain ⟨a, ha, h1, h2⟩ := lastOf_mem _ _ _ he
    unfold endsAt
    exact List.any_eq_true.2 ⟨a, List.mem_of_mem_take ha, by simp [h1, h2]⟩
end Go.Proofs.Ytdkfmbammdmohaa.PPolicyCosts

namespace Go.Proofs.Ytdkfmbammdmohaa.PPolicyCosts
open Go.RowKit Go.Proofs.YtdkfmbammdmohaaW.PrintWords Go.Proofs.YtdkfmbammdmohaaW.PrintLast Go.Proofs.YtdkfmbammdmohaaW.PrintMore
open Go.Proofs.YtdkfmbammdmohaaM Go.Proofs.YtdkfmbammdmohaaS
set_option linter.unusedVariables false
set_option linter.unusedSimpArgs false

theorem live_inv {hold win kind age most A : Int} {l : List S73} (h : Tr3 l) (A0 : 0 ≤ A) (h4 : kind ≠ 4) (N : Int)
    (hgo : ∀ t s p, t ≤ N → (idleB s p = true → 0 ≤ s.since p ∧ s.since p ≤ t) → goesB kind age t s p = (idleB s p && decide (A ≤ t - s.since p))) :
    ∀ t : Nat, (t : Int) ≤ N + 1 → InvL hold win A t (l.take (qN t l)) (liveR l hold win kind age most t)
  | 0, _ => by
    have hz := qN_zero l (fun u hu => (h.rng u hu).2.2.1)
    have : ((0 : Nat) : Int) = 0 := rfl
    rw [this, hz, List.take_zero]
    refine ⟨fun p _ _ => ⟨rfl, rfl⟩, ?_⟩
    show (0 : Int) = _
    simp [costT, cntOf, pagesOf, gapsOf, gapsU, sumG, lastOf, tlA, wrap64]
  | t + 1, ht => by
    have ih := live_inv (hold := hold) (win := win) (most := most) h A0 h4 N hgo t (by omega)
    have hcast : ((t + 1 : Nat) : Int) = (t : Int) + 1 := by omega
    have hb := begin_loop (qN_mono t l) (qN_le _ l) (qN_at t l h.srt) (fun i hi => by
      have hm : rd_T73 l (i : Int) ∈ l := by rw [rd73x_is l i hi]; exact List.getElem_mem hi
      have hr := h.rng _ hm
      exact ⟨hr.1, hr.2.1, hr.2.2.2.1, h.last i hi⟩) ih l.length (Nat.le_refl _)
    have hle := qN_le ((t : Int) + 1) l
    have hmo := qN_mono (t : Int) l
    have hmx : max (qN (t : Int) l) (min l.length (qN ((t : Int) + 1) l)) = qN ((t : Int) + 1) l := by omega
    rw [hmx] at hb
    have htk := tick_inv (most := most) A0 h4 (fun s p => hgo t s p (by omega)) (h.ends t) (fun p e he => by
      obtain ⟨a, ha, _, h2⟩ := lastOf_mem _ _ _ he
      have := h.rng a (List.mem_of_mem_take ha)
      omega) hb
    have hks : keptS l win kind age most (t : Int) (liveR l hold win kind age most t) = dropN kind age t (endN l t (beginN l win t (liveR l hold win kind age most t) l.length) l.length) 3 := by
      unfold keptS endsS
      rw [evS_other kind most h4]
    rw [hcast, liveR]
    unfold tickS
    rw [hks]
    exact htk
end Go.Proofs.Ytdkfmbammdmohaa.PPolicyCosts

namespace Go.Proofs.Ytdkfmbammdmohaa.PPolicyCosts
open Go.RowKit Go.Proofs.YtdkfmbammdmohaaW.PrintWords Go.Proofs.YtdkfmbammdmohaaW.PrintLast Go.Proofs.YtdkfmbammdmohaaW.PrintMore
open Go.Proofs.YtdkfmbammdmohaaM Go.Proofs.YtdkfmbammdmohaaS
set_option linter.unusedVariables false
set_option linter.unusedSimpArgs false

theorem sum_three (F : Int → Int) (ks : List Int) (hn : ks.Nodup) (hk : ∀ p ∈ ks, 0 ≤ p ∧ p < 3) : (ks.map F).sum = (if (0 : Int) ∈ ks then F 0 else 0) + (if (1 : Int) ∈ ks then F 1 else 0) + (if (2 : Int) ∈ ks then F 2 else 0) := by
  have hp : ks.Perm (([0, 1, 2] : List Int).filter (fun p => decide (p ∈ ks))) := by
    refine (List.perm_ext_iff_of_nodup hn (List.Pairwise.sublist (List.filter_sublist ..) (show ([0, 1, 2] : List Int).Nodup by decide))).2 (fun p => ?_)
    simp only [List.mem_filter, decide_eq_true_eq]
    constructor
    · intro h
      have := hk p h
      refine ⟨?_, h⟩
      have h3 : p = 0 ∨ p = 1 ∨ p = 2 := by omega
      rcases h3 with rfl | rfl | rfl <;> simp
    · exact fun h => h.2
  rw [sum_perm (hp.map F)]
  by_cases h0 : (0 : Int) ∈ ks <;> by_cases h1 : (1 : Int) ∈ ks <;> by_cases h2 : (2 : Int) ∈ ks <;> simp [h0, h1, h2, List.filter] <;> omega
theorem costT_end {hold win A : Int} {l : List S73} (h : Tr3 l) (A0 : 0 ≤ A) : costT hold win A (endOf l) l = costV hold win A l := by
  have hm := endOf_max l
  have hk : ∀ p ∈ keysOf l, 0 ≤ p ∧ p < 3 := by
    intro p hp
    rw [keysOf_mem] at hp
    obtain ⟨e, he⟩ := Option.isSome_iff_exists.1 hp
    obtain ⟨a, ha, h1, _⟩ := lastOf_mem _ _ _ he
    have := h.rng a ha
    omega
  have ht : ∀ p, tlA A (endOf l) (lastOf l p) * hold = if p ∈ keysOf l then mn A (endOf l - (lastOf l p).getD 0) * hold else 0 := by
    intro p
    cases hl : lastOf l p with
    | none =>
      rw [if_neg (by rw [keysOf_mem, hl]; decide)]
      show 0 * hold = 0
      simp
    | some e =>
      obtain ⟨a, ha, _, h2⟩ := lastOf_mem _ _ _ hl
      have := hm.1 a ha
      rw [if_pos (by rw [keysOf_mem, hl]; rfl)]
      unfold tlA
      simp only [Option.getD_some]
      by_cases hc : e < endOf l
      · rw [if_pos hc]
      · rw [if_neg hc]
        have h0 : mn A (endOf l - e) = 0 := by unfold mn; split <;> omega
        rw [h0]
  unfold costT costV sumT
  rw [sum_three _ _ (keysOf_nodup l) hk, Int.add_mul, Int.add_mul, ht 0, ht 1, ht 2]
end Go.Proofs.Ytdkfmbammdmohaa.PPolicyCosts

namespace Go.Proofs.Ytdkfmbammdmohaa.PPolicyCosts
open Go.RowKit Go.Proofs.YtdkfmbammdmohaaW.PrintWords Go.Proofs.YtdkfmbammdmohaaW.PrintLast Go.Proofs.YtdkfmbammdmohaaW.PrintMore
open Go.Proofs.YtdkfmbammdmohaaM Go.Proofs.YtdkfmbammdmohaaS
set_option linter.unusedVariables false
set_option linter.unusedSimpArgs false

theorem live_gen {hold win kind age most A : Int} {l : List S73} (h : Tr3 l) (A0 : 0 ≤ A) (h4 : kind ≠ 4)
    (hgo : ∀ t s p, t ≤ endOf l → (idleB s p = true → 0 ≤ s.since p ∧ s.since p ≤ t) → goesB kind age t s p = (idleB s p && decide (A ≤ t - s.since p))) :
    (liveR l hold win kind age most (endOf l).toNat).cost = wrap64 (costV hold win A l) := by
  have hm := endOf_max l
  have hc : (((endOf l).toNat : Nat) : Int) = endOf l := Int.toNat_of_nonneg hm.2.1
  have hi := (live_inv (hold := hold) (win := win) (most := most) h A0 h4 (endOf l) hgo (endOf l).toNat (by omega)).co
  rw [hc, qN_all _ l (fun u hu => by have := hm.1 u hu; have := h.rng u hu; omega), List.take_length, costT_end h A0] at hi
  exact hi
theorem Tr3.end_le {l : List S73} (h : Tr3 l) : endOf l ≤ 80 := by
  rcases (endOf_max l).2.2 with h1 | ⟨u, hu, h1⟩
  · omega
  · have := h.rng u hu; omega
theorem live_keep {hold win age most : Int} {l : List S73} (h : Tr3 l) : (liveR l hold win 1 age most (endOf l).toNat).cost = wrap64 (costV hold win 1000000000 l) := by
  refine live_gen h (by decide) (by decide) (fun t s p ht hr => ?_)
  have he := h.end_le
  unfold goesB
  cases hi : idleB s p with
  | false => rfl
  | true =>
    have := hr hi
    have hd : decide (1000000000 ≤ t - s.since p) = false := decide_eq_false (by omega)
    rw [hd]
    simp
theorem live_drop {hold win age most : Int} {l : List S73} (h : Tr3 l) : (liveR l hold win 2 age most (endOf l).toNat).cost = wrap64 (costV hold win 0 l) := by
  refine live_gen h (by decide) (by decide) (fun t s p ht hr => ?_)
  unfold goesB
  cases hi : idleB s p with
  | false => rfl
  | true =>
    have := hr hi
    have hd : decide (0 ≤ t - s.since p) = true := decide_eq_true (by omega)
    rw [hd]
    simp
theorem live_age {hold win age most : Int} {l : List S73} (h : Tr3 l) (a0 : 0 ≤ age) : (liveR l hold win 3 age most (endOf l).toNat).cost = wrap64 (costV hold win age l) := by
  refine live_gen h a0 (by decide) (fun t s p ht hr => ?_)
  have he := h.end_le
  unfold goesB
  cases hi : idleB s p with
  | false => rfl
  | true =>
    have := hr hi
    have hw : wrap64 (t - s.since p) = t - s.since p := by unfold wrap64; omega
    rw [hw]
    simp
end Go.Proofs.Ytdkfmbammdmohaa.PPolicyCosts
