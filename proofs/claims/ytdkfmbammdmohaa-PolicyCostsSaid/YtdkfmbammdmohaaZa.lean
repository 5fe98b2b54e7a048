/- The reference's cost of an age is the sum over the uses that package policy reckons by gaps and tails. -/
import Derived.Test.YtdkfmbammdmohaaZ9
import Derived.Test.YtdkfmbammdmohaaPPolicyCostsx10
import Derived.Test.YtdkfmbammdmohaaPPolicyCostsx12
namespace Go.Proofs.Ytdkfmbammdmohaa.PPolicyCosts
open Go.RowKit Go.Proofs.YtdkfmbammdmohaaW.PrintWords Go.Proofs.YtdkfmbammdmohaaW.PrintLast Go.Proofs.YtdkfmbammdmohaaW.PrintMore
open Go.Proofs.YtdkfmbammdmohaaM Go.Proofs.YtdkfmbammdmohaaS
set_option linter.unusedVariables false
set_option linter.unusedSimpArgs false

theorem w_add (a b : Int) : wrap64 (wrap64 a + b) = wrap64 (a + b) := by unfold wrap64; omega
theorem w_add2 (a b : Int) : wrap64 (wrap64 a + wrap64 b) = wrap64 (a + b) := by unfold wrap64; omega

theorem first_ev (l : List S73) (hl : l.length ≤ 200) (i : Nat) (hi : i < l.length) : ∀ d j : Nat, j + d = i →
    Ev (fun k => polderref31_first.l0 k l (i : Int) (j : Int)) (!((l.take i).drop j).any (fun v => v.f0 == l[i].f0)) := by
  intro d
  induction d with
  | zero =>
    intro j hj
    have e : (l.take i).drop j = [] := by rw [List.drop_eq_nil_iff]; simp; omega
    rw [e]
    refine Ev.step (f := fun _ => some true) (fun k => ?_) (Ev.now _)
    simp only [polderref31_first.l0]
    rw [if_neg (by omega)]
  | succ d ih =>
    intro j hj
    have e : (l.take i).drop j = l[j] :: (l.take i).drop (j + 1) := by
      rw [List.drop_eq_getElem_cons (by simp; omega)]
      simp
    rw [e, List.any_cons]
    by_cases hp : l[j].f0 = l[i].f0
    · refine Ev.step (f := fun _ => some false) (fun k => ?_) ?_
      · simp only [polderref31_first.l0]
        rw [rd73_is l i hi, rd73_is l j (by omega), if_pos (by omega), if_pos (by omega), if_pos (by omega), if_pos (by omega), if_pos (by omega), if_pos hp]
      · simp [hp]; exact Ev.now _
    · refine Ev.step (f := fun k => polderref31_first.l0 k l (i : Int) ((j + 1 : Nat) : Int)) (fun k => ?_) ?_
      · simp only [polderref31_first.l0]
        rw [rd73_is l i hi, rd73_is l j (by omega), if_pos (by omega), if_pos (by omega), if_pos (by omega), if_pos (by omega), if_pos (by omega), if_neg hp, IntWalk.wrap64_in _ (by omega)]
        rfl
      · have := ih (j + 1) (by omega)
        have e2 : (l[j].f0 == l[i].f0) = false := by simpa using hp
        rw [e2, Bool.false_or]
        exact this

/-- the number of the first use of a page, or -1 -/
def nxtI (p : Int) : Int → List S73 → Int
  | _, [] => -1
  | j, v :: r => if v.f0 = p then j else nxtI p (j + 1) r
theorem next_ev (l : List S73) (hl : l.length ≤ 200) (i : Nat) (hi : i < l.length) : ∀ d j : Nat, j + d = l.length →
    Ev (fun k => polderref31_next.l0 k l (i : Int) (j : Int)) (nxtI l[i].f0 (j : Int) (l.drop j)) := by
  intro d
  induction d with
  | zero =>
    intro j hj
    have e : l.drop j = [] := by rw [List.drop_eq_nil_iff]; omega
    rw [e]
    refine Ev.step (f := fun _ => some (-1)) (fun k => ?_) (Ev.now _)
    simp only [polderref31_next.l0]
    rw [if_neg (by omega)]
  | succ d ih =>
    intro j hj
    have e : l.drop j = l[j] :: l.drop (j + 1) := List.drop_eq_getElem_cons (by omega)
    rw [e, nxtI]
    by_cases hp : l[j].f0 = l[i].f0
    · rw [if_pos hp]
      refine Ev.step (f := fun _ => some (j : Int)) (fun k => ?_) (Ev.now _)
      simp only [polderref31_next.l0]
      rw [rd73_is l i hi, rd73_is l j (by omega), if_pos (by omega), if_pos (by omega), if_pos (by omega), if_pos (by omega), if_pos hp]
    · rw [if_neg hp]
      refine Ev.step (f := fun k => polderref31_next.l0 k l (i : Int) ((j + 1 : Nat) : Int)) (fun k => ?_) (ih (j + 1) (by omega))
      simp only [polderref31_next.l0]
      rw [rd73_is l i hi, rd73_is l j (by omega), if_pos (by omega), if_pos (by omega), if_pos (by omega), if_pos (by omega), if_neg hp, IntWalk.wrap64_in _ (by omega)]
      rfl
theorem nxtI_none (p : Int) : ∀ (r : List S73) (j : Int), r.find? (fun v => v.f0 == p) = none → nxtI p j r = -1
  | [], _, _ => rfl
  | v :: r, j, h => by
    rw [List.find?_cons] at h
    rw [nxtI]
    by_cases hp : v.f0 = p
    · simp [hp] at h
    · rw [if_neg hp]
      have e2 : (v.f0 == p) = false := by simpa using hp
      rw [e2] at h
      exact nxtI_none p r _ h
theorem nxtI_some (p : Int) (v : S73) : ∀ (r : List S73) (j : Int), r.find? (fun v => v.f0 == p) = some v → ∃ m : Nat, ∃ hm : m < r.length, nxtI p j r = j + m ∧ r[m] = v
  | [], _, h => by simp at h
  | x :: r, j, h => by
    rw [List.find?_cons] at h
    rw [nxtI]
    by_cases hp : x.f0 = p
    · simp [hp] at h
      rw [if_pos hp]
      exact ⟨0, by simp, by simp, by simpa using h⟩
    · rw [if_neg hp]
      have e2 : (x.f0 == p) = false := by simpa using hp
      rw [e2] at h
      obtain ⟨m, hm, h1, h2⟩ := nxtI_some p v r (j + 1) h
      exact ⟨m + 1, by simp; omega, by rw [h1]; omega, by simpa using h2⟩
theorem end_ev0 (l : List S73) (hl : l.length ≤ 200) : ∀ d j : Nat, j + d = l.length → ∀ x : Int,
    Ev (fun k => polderref31_end.l0 k l x (j : Int)) ((l.drop j).foldl (fun a u => mx a u.f2) x) := by
  intro d
  induction d with
  | zero =>
    intro j hj x
    have e : l.drop j = [] := by rw [List.drop_eq_nil_iff]; omega
    rw [e]
    refine Ev.step (f := fun _ => some x) (fun k => ?_) (Ev.now _)
    simp only [polderref31_end.l0]
    rw [if_neg (by omega)]
  | succ d ih =>
    intro j hj x
    have e : l.drop j = l[j] :: l.drop (j + 1) := List.drop_eq_getElem_cons (by omega)
    rw [e, List.foldl_cons]
    refine Ev.step (f := fun k => polderref31_end.l0 k l (mx x l[j].f2) ((j + 1 : Nat) : Int)) (fun k => ?_) (ih (j + 1) (by omega) _)
    simp only [polderref31_end.l0]
    rw [rd73_is l j (by omega), if_pos (by omega), if_pos (by omega), IntWalk.wrap64_in _ (by omega)]
    rfl
theorem end_ev (l : List S73) (hl : l.length ≤ 200) : Ev (fun k => polderref31_end.f k l) (endOf l) := by
  have := end_ev0 l hl l.length 0 (by omega) 0
  rw [List.drop_zero] at this
  exact this

/-- what a use costs behind its end -/
def nextC (e hold win age : Int) (u : S73) (r : List S73) : Int := match r.find? (fun v => v.f0 == u.f0) with
  | none => mn age (e - u.f2) * hold
  | some v => gapC hold win age ⟨u.f0, u.f2, v.f1⟩
def refS (e hold win age : Int) : List S73 → List S73 → Int
  | _, [] => 0
  | pre, u :: r => (if pre.any (fun v => v.f0 == u.f0) = true then 0 else win) + nextC e hold win age u r + refS e hold win age (pre ++ [u]) r

theorem gapC_le {hold win age : Int} {p a b : Int} (h : b - a ≤ age) : gapC hold win age ⟨p, a, b⟩ = (b - a) * hold := by
  unfold gapC
  have : mn age (b - a) = b - a := by unfold mn; split <;> omega
  simp only [this]
  rw [if_neg (by omega)]
  omega
theorem gapC_gt {hold win age : Int} {p a b : Int} (h : ¬ b - a ≤ age) : gapC hold win age ⟨p, a, b⟩ = age * hold + win := by
  unfold gapC
  have : mn age (b - a) = age := by unfold mn; split <;> omega
  simp only [this]
  rw [if_pos (by omega)]

theorem aged_ev (l : List S73) (hl : l.length ≤ 200) (hr : ∀ u ∈ l, 0 ≤ u.f1 ∧ u.f1 ≤ 1000000000 ∧ 0 ≤ u.f2 ∧ u.f2 ≤ 1000000000) (he : 0 ≤ endOf l ∧ endOf l ≤ 1000000000) (hold win age : Int) : ∀ d i : Nat, i + d = l.length → ∀ N : Int,
    Ev (fun k => polderref31_aged.l0 k l age (wrap64 N) (i : Int) hold win) (wrap64 (N + refS (endOf l) hold win age (l.take i) (l.drop i))) := by
  intro d
  induction d with
  | zero =>
    intro i hi N
    have e : l.drop i = [] := by rw [List.drop_eq_nil_iff]; omega
    rw [e]
    refine Ev.step (f := fun _ => some (wrap64 N)) (fun k => ?_) ?_
    · simp only [polderref31_aged.l0]
      rw [if_neg (by omega)]
    · simp only [refS, Int.add_zero]; exact Ev.now _
  | succ d ih =>
    intro i hi N
    have hil : i < l.length := by omega
    have e : l.drop i = l[i] :: l.drop (i + 1) := List.drop_eq_getElem_cons (by omega)
    have hu := hr l[i] (List.getElem_mem hil)
    have hf := first_ev l hl i hil i 0 (by omega)
    rw [List.drop_zero] at hf
    rw [e, refS]
    rw [show l.take i ++ [l[i]] = l.take (i + 1) from (take_snoc' l i hil).symm]
    -- behind the first test
    have key : ∀ M : Int, Ev (fun k => polderref31_aged.j1 k l age (wrap64 M) (i : Int) hold win) (wrap64 (M + nextC (endOf l) hold win age l[i] (l.drop (i + 1)) + refS (endOf l) hold win age (l.take (i + 1)) (l.drop (i + 1)))) := by
      intro M
      have hn := next_ev l hl i hil (l.length - (i + 1)) (i + 1) (by omega)
      have hn' : Ev (fun k => polderref31_next.f k l (i : Int)) (nxtI l[i].f0 ((i + 1 : Nat) : Int) (l.drop (i + 1))) := by
        refine Ev.congr (fun k => ?_) hn
        unfold polderref31_next.f
        rw [IntWalk.wrap64_in _ (by omega)]
        rfl
      refine Ev.step (fun k => by rw [polderref31_aged.j1]) (Ev.bind hn' ?_)
      unfold nextC
      cases hfd : (l.drop (i + 1)).find? (fun v => v.f0 == l[i].f0) with
      | none =>
        rw [nxtI_none _ _ _ hfd]
        refine Ev.congr (f := fun k => (polderref31_end.f k l).bind fun t275 => polderref31_aged.l0 k l age (wrap64 (wrap64 M + wrap64 (mn age (wrap64 (t275 - l[i].f2)) * hold))) ((i + 1 : Nat) : Int) hold win) (fun k => ?_) ?_
        · rw [if_pos (by omega)]
          congr 1
          funext t275
          rw [if_pos (by omega), if_pos (by omega), rd73_is l i hil, IntWalk.wrap64_in ((i : Int) + 1) (by omega)]
          rfl
        · refine Ev.bind (end_ev l hl) ?_
          rw [IntWalk.wrap64_in (endOf l - l[i].f2) (by omega), w_add2]
          exact ih (i + 1) (by omega) _
      | some v =>
        obtain ⟨m, hm, h1, h2⟩ := nxtI_some _ _ _ ((i + 1 : Nat) : Int) hfd
        rw [h1]
        have hm2 : i + 1 + m < l.length := by simp at hm; omega
        have hv : rd_T73 l (((i + 1 : Nat) : Int) + (m : Int)) = v := by
          have e1 : (((i + 1 : Nat) : Int) + (m : Int)) = ((i + 1 + m : Nat) : Int) := by omega
          rw [e1, rd73_is l _ hm2, ← h2, List.getElem_drop]
        have hvl : v ∈ l := by rw [← h2]; exact List.mem_of_mem_drop (List.getElem_mem hm)
        have hvr := hr v hvl
        by_cases hg : v.f1 - l[i].f2 ≤ age
        · refine Ev.congr (f := fun k => polderref31_aged.l0 k l age (wrap64 (wrap64 M + wrap64 ((v.f1 - l[i].f2) * hold))) ((i + 1 : Nat) : Int) hold win) (fun k => ?_) ?_
          · rw [hv, rd73_is l i hil, IntWalk.wrap64_in (v.f1 - l[i].f2) (by omega), if_neg (by omega), if_pos (by omega), if_pos (by omega), if_pos (by omega), if_pos (by omega), if_pos hg, IntWalk.wrap64_in ((i : Int) + 1) (by omega)]
            rfl
          · rw [w_add2]
            simp only [gapC_le hg]
            exact ih (i + 1) (by omega) _
        · refine Ev.congr (f := fun k => polderref31_aged.l0 k l age (wrap64 (wrap64 (wrap64 M + wrap64 (age * hold)) + win)) ((i + 1 : Nat) : Int) hold win) (fun k => ?_) ?_
          · rw [hv, rd73_is l i hil, IntWalk.wrap64_in (v.f1 - l[i].f2) (by omega), if_neg (by omega), if_pos (by omega), if_pos (by omega), if_pos (by omega), if_pos (by omega), if_neg hg, IntWalk.wrap64_in ((i : Int) + 1) (by omega)]
            rfl
          · rw [w_add2, w_add]
            simp only [gapC_gt hg]
            have := ih (i + 1) (by omega) (M + age * hold + win)
            rw [show M + (age * hold + win) = M + age * hold + win by omega]
            exact this
    have hf' : Ev (fun k => polderref31_first.f k l (i : Int)) (!(l.take i).any (fun v => v.f0 == l[i].f0)) := hf
    refine Ev.step (f := fun k => (polderref31_first.f k l (i : Int)).bind fun t273 => (if t273 = true then (polderref31_aged.j1 k l age (wrap64 (wrap64 N + win)) (i : Int) hold win) else (polderref31_aged.j1 k l age (wrap64 N) (i : Int) hold win))) (fun k => ?_) (Ev.bind hf' ?_)
    · rw [polderref31_aged.l0, if_pos (by omega)]
    · cases hb : (l.take i).any (fun v => v.f0 == l[i].f0) with
      | true =>
        refine Ev.congr (fun k => by rw [if_neg (by decide)]) ?_
        simp only [if_true, Int.zero_add]
        rw [← Int.add_assoc]
        exact key N
      | false =>
        refine Ev.congr (fun k => by rw [if_pos (by decide)]) ?_
        rw [w_add, if_neg (by decide)]
        have := key (N + win)
        rw [show N + (win + nextC (endOf l) hold win age l[i] (l.drop (i + 1)) + refS (endOf l) hold win age (l.take (i + 1)) (l.drop (i + 1))) = N + win + nextC (endOf l) hold win age l[i] (l.drop (i + 1)) + refS (endOf l) hold win age (l.take (i + 1)) (l.drop (i + 1)) by omega]
        exact this

/-! The sum over the uses, by gaps and tails. -/
theorem any_last (l : List S73) (p : Int) : l.any (fun v => v.f0 == p) = (lastOf l p).isSome := by
  refine snoc_ind (P := fun l => l.any (fun v => v.f0 == p) = (lastOf l p).isSome) rfl ?_ l
  intro l u ih
  rw [List.any_append, ih, lastOf_snoc]
  by_cases h : u.f0 = p
  · simp [h]
  · simp [h]
/-- what the uses behind a list make of a page whose last use ends at a tick -/
def pend (e hold win age : Int) (r : List S73) (p t : Int) : Int := match r.find? (fun v => v.f0 == p) with
  | none => mn age (e - t) * hold
  | some v => gapC hold win age ⟨p, t, v.f1⟩
theorem nextC_is (e hold win age : Int) (u : S73) (r : List S73) : nextC e hold win age u r = pend e hold win age r u.f0 u.f2 := rfl
def sumP (e hold win age : Int) (r : List S73) (f : Int → Option Int) (ks : List Int) : Int := (ks.map fun p => pend e hold win age r p ((f p).getD 0)).sum
theorem sumP_nil (e hold win age : Int) (f : Int → Option Int) (ks : List Int) : sumP e hold win age [] f ks = sumT hold age e f ks := rfl
theorem sumP_snoc (e hold win age : Int) (r : List S73) (f : Int → Option Int) (ks : List Int) (p : Int) : sumP e hold win age r f (ks ++ [p]) = sumP e hold win age r f ks + pend e hold win age r p ((f p).getD 0) := by simp [sumP]
theorem sumP_perm {e hold win age : Int} {r : List S73} {f : Int → Option Int} {ks js : List Int} (h : ks.Perm js) : sumP e hold win age r f ks = sumP e hold win age r f js := sum_perm (h.map _)
theorem sumP_cons (e hold win age : Int) (r : List S73) (f : Int → Option Int) (ks : List Int) (p : Int) : sumP e hold win age r f (p :: ks) = pend e hold win age r p ((f p).getD 0) + sumP e hold win age r f ks := by simp [sumP]
theorem pend_other (e hold win age : Int) (u : S73) (r : List S73) (p t : Int) (h : u.f0 ≠ p) : pend e hold win age (u :: r) p t = pend e hold win age r p t := by
  unfold pend
  have e2 : (u.f0 == p) = false := by simpa using h
  rw [List.find?_cons, e2]
theorem pend_same (e hold win age : Int) (u : S73) (r : List S73) (t : Int) : pend e hold win age (u :: r) u.f0 t = gapC hold win age ⟨u.f0, t, u.f1⟩ := by
  unfold pend
  rw [List.find?_cons]
  simp
theorem sumP_other (e hold win age : Int) (pre : List S73) (u : S73) (r : List S73) : ∀ ks : List Int, u.f0 ∉ ks → sumP e hold win age (u :: r) (lastOf pre) ks = sumP e hold win age r (lastOf (pre ++ [u])) ks
  | [], _ => rfl
  | p :: ks, h => by
    have hp : u.f0 ≠ p := fun h2 => h (by simp [h2])
    rw [sumP_cons, sumP_cons, sumP_other e hold win age pre u r ks (fun h2 => h (by simp [h2])), pend_other e hold win age u r p _ hp, lastOf_snoc, if_neg hp]
theorem ref_sum (e hold win age : Int) : ∀ (r pre : List S73),
    (pagesOf pre r : Int) * win + sumG hold win age (gapsU pre r) + sumT hold age e (lastOf (pre ++ r)) (keysOf (pre ++ r)) = refS e hold win age pre r + sumP e hold win age r (lastOf pre) (keysOf pre)
  | [], pre => by
    rw [sumP_nil]
    simp [pagesOf, gapsU, refS, sumG]
  | u :: r, pre => by
    have ih := ref_sum e hold win age r (pre ++ [u])
    rw [List.append_assoc] at ih
    rw [refS, nextC_is, any_last]
    have hpg : pagesOf pre (u :: r) = (if (lastOf pre u.f0).isSome then 0 else 1) + pagesOf (pre ++ [u]) r := rfl
    have hgp : gapsU pre (u :: r) = gapOf pre u ++ gapsU (pre ++ [u]) r := rfl
    have hsg : sumG hold win age (gapOf pre u ++ gapsU (pre ++ [u]) r) = sumG hold win age (gapOf pre u) + sumG hold win age (gapsU (pre ++ [u]) r) := by simp [sumG]
    rw [hpg, hgp, hsg]
    have hmem := keysOf_mem pre u.f0
    cases hlo : lastOf pre u.f0 with
    | none =>
      have hk : keysOf (pre ++ [u]) = keysOf pre ++ [u.f0] := by rw [keysOf_snoc]; unfold keyOf; rw [hlo]; rfl
      have hg : gapOf pre u = [] := by unfold gapOf; rw [hlo]
      have hn : u.f0 ∉ keysOf pre := by rw [hmem, hlo]; decide
      rw [hk, sumP_snoc, ← sumP_other e hold win age pre u r (keysOf pre) hn, lastOf_snoc, if_pos rfl] at ih
      rw [hg]
      simp only [Option.isSome_none, Option.getD_some] at ih ⊢
      have h1 : (((if false = true then 0 else 1) + pagesOf (pre ++ [u]) r : Nat) : Int) * win = win + (pagesOf (pre ++ [u]) r : Int) * win := by
        simp [Int.add_mul]
      have h2 : sumG hold win age [] = 0 := rfl
      rw [h1, h2, if_neg (by decide)]
      simp only [List.append_assoc, List.cons_append, List.nil_append] at ih
      omega
    | some t =>
      have hk : keysOf (pre ++ [u]) = keysOf pre := by rw [keysOf_snoc]; unfold keyOf; rw [hlo]; simp
      have hg : gapOf pre u = [⟨u.f0, t, u.f1⟩] := by unfold gapOf; rw [hlo]
      have hm : u.f0 ∈ keysOf pre := by rw [hmem, hlo]; rfl
      have hpm := List.perm_cons_erase hm
      have hn : u.f0 ∉ (keysOf pre).erase u.f0 := fun h => (keysOf_nodup pre).not_mem_erase h
      rw [hk, sumP_perm hpm, sumP_cons, ← sumP_other e hold win age pre u r _ hn, lastOf_snoc, if_pos rfl] at ih
      rw [hg, sumP_perm hpm, sumP_cons, hlo]
      simp only [Option.isSome_some, Option.getD_some, pend_same] at ih ⊢
      have h2 : sumG hold win age [⟨u.f0, t, u.f1⟩] = gapC hold win age ⟨u.f0, t, u.f1⟩ := by simp [sumG]
      rw [h2]
      simp only [if_true, Nat.zero_add]
      simp only [List.append_assoc, List.cons_append, List.nil_append] at ih
      omega
/-- The reference's cost of an age. -/
theorem aged_is {l : List S73} {hold win age : Int} (hb : bothE l hold win = 0) (a0 : 0 ≤ age) (a1 : age ≤ 1000000000) : ∃ k, polderref31_aged.f k l hold win age = some (costV hold win age l) := by
  obtain ⟨hck, h0, h1, w0, w1⟩ := bothE_zero hb
  obtain ⟨hl, c2, c3⟩ := chk_zero hck
  have tf := tr_facts l c2 c3
  have hr : ∀ u ∈ l, 0 ≤ u.f1 ∧ u.f1 ≤ 1000000000 ∧ 0 ≤ u.f2 ∧ u.f2 ≤ 1000000000 := by
    intro u hu
    have := right_bd (u := u) (by rw [List.any_eq_false] at c2; simpa using c2 u hu)
    omega
  have hev := aged_ev l hl hr ⟨tf.e0, tf.e1⟩ hold win age l.length 0 (by omega) 0
  rw [List.take_zero, List.drop_zero] at hev
  have hs := ref_sum (endOf l) hold win age l []
  rw [List.nil_append] at hs
  have hz : sumP (endOf l) hold win age l (lastOf []) (keysOf []) = 0 := rfl
  rw [hz] at hs
  have hcv : costV hold win age l = refS (endOf l) hold win age [] l := by
    unfold costV cntOf gapsOf
    omega
  have b1 := sumG_bd h0 h1 w0 w1 a0 (gapsOf l) tf.gaps
  have b2 := sumT_bd h0 h1 a0 tf.e1 tf.last (keysOf l) (fun p hp => (keysOf_mem l p).1 hp)
  have hgl := gapsOf_len l
  have hcn := tf.cnt
  have hkl : (keysOf l).length ≤ 200 := by
    have : (keysOf l).length = cntOf l := by
      refine snoc_ind (P := fun l => (keysOf l).length = cntOf l) rfl ?_ l
      intro l u ih
      rw [keysOf_snoc, cntOf_snoc, List.length_append, ih]
      unfold keyOf
      cases (lastOf l u.f0).isSome <;> simp
    omega
  have m1 := mul_bd (a := (cntOf l : Int)) (b := win) (A := 200) (B := 1000000000) (by omega) (by omega) w0 w1
  have hw : wrap64 (0 + refS (endOf l) hold win age [] l) = costV hold win age l := by
    rw [Int.zero_add, ← hcv]
    refine IntWalk.wrap64_in _ ?_
    unfold costV
    omega
  rw [hw] at hev
  have e0 : wrap64 0 = 0 := by unfold wrap64; omega
  rw [e0] at hev
  exact Ev.rounds (g := fun k => polderref31_aged.f k l hold win age) hev
end Go.Proofs.Ytdkfmbammdmohaa.PPolicyCosts

namespace Go.Proofs.Ytdkfmbammdmohaa.PPolicyCosts
open Go.RowKit Go.Proofs.YtdkfmbammdmohaaW.PrintWords Go.Proofs.YtdkfmbammdmohaaW.PrintLast Go.Proofs.YtdkfmbammdmohaaW.PrintMore
open Go.Proofs.YtdkfmbammdmohaaM Go.Proofs.YtdkfmbammdmohaaS
set_option linter.unusedVariables false
set_option linter.unusedSimpArgs false

theorem w_q (d : Int) : ∃ q : Int, wrap64 d = d + 18446744073709551616 * q := by
  refine ⟨-((d + 9223372036854775808) / 18446744073709551616), ?_⟩
  unfold wrap64
  omega
theorem w_mul (d h : Int) : wrap64 (wrap64 d * h) = wrap64 (d * h) := by
  obtain ⟨q, hq⟩ := w_q d
  rw [hq, Int.add_mul, Int.mul_assoc]
  generalize d * h = x
  generalize q * h = y
  unfold wrap64
  omega
theorem w_pay (N d h : Int) : wrap64 (wrap64 N + wrap64 (wrap64 d * h)) = wrap64 (N + d * h) := by rw [w_mul, w_add2]
theorem rd107_is (l : List S107) (k : Nat) (h : k < l.length) : rd_T107 l (k : Int) = l[k] := by
  unfold rd_T107
  rw [Int.toNat_natCast, List.getD_eq_getElem?_getD, List.getElem?_eq_getElem h]
  rfl

/-- the place of a page among those that are held -/
def idx107 (p : Int) (xs : List S107) : Option Nat := xs.findIdx? (fun x => x.f0 == p)
def idxI (o : Option Nat) (j : Nat) : Int := match o with | none => -1 | some m => ((j + m : Nat) : Int)
theorem find_ev0 (xs : List S107) (hl : xs.length < 8796093022208) (p : Int) : ∀ d j : Nat, j + d = xs.length →
    Ev (fun k => polderref31_find.l0 k xs p (j : Int)) (idxI (idx107 p (xs.drop j)) j) := by
  intro d
  induction d with
  | zero =>
    intro j hj
    have e : xs.drop j = [] := by rw [List.drop_eq_nil_iff]; omega
    rw [e]
    refine Ev.step (f := fun _ => some (-1)) (fun k => ?_) (Ev.now _)
    simp only [polderref31_find.l0]
    rw [if_neg (by omega)]
  | succ d ih =>
    intro j hj
    have e : xs.drop j = xs[j] :: xs.drop (j + 1) := List.drop_eq_getElem_cons (by omega)
    rw [e]
    unfold idx107
    rw [List.findIdx?_cons]
    by_cases hp : xs[j].f0 = p
    · rw [if_pos (by simpa using hp)]
      refine Ev.step (f := fun _ => some (j : Int)) (fun k => ?_) (Ev.now _)
      simp only [polderref31_find.l0]
      rw [rd107_is xs j (by omega), if_pos (by omega), if_pos (by omega), if_pos hp]
    · rw [if_neg (by simpa using hp)]
      have e3 : idxI (Option.map (fun i => i + 1) ((xs.drop (j + 1)).findIdx? (fun x => x.f0 == p))) j = idxI (idx107 p (xs.drop (j + 1))) (j + 1) := by
        unfold idx107
        cases (xs.drop (j + 1)).findIdx? (fun x => x.f0 == p) with
        | none => rfl
        | some m => simp only [Option.map_some, idxI]; omega
      rw [e3]
      refine Ev.step (f := fun k => polderref31_find.l0 k xs p ((j + 1 : Nat) : Int)) (fun k => ?_) (ih (j + 1) (by omega))
      simp only [polderref31_find.l0]
      rw [rd107_is xs j (by omega), if_pos (by omega), if_pos (by omega), if_neg hp, IntWalk.wrap64_in _ (by omega)]
      rfl
theorem find_ev (xs : List S107) (hl : xs.length < 8796093022208) (p : Int) : Ev (fun k => polderref31_find.f k xs p) (idxI (idx107 p xs) 0) := by
  have := find_ev0 xs hl p xs.length 0 (by omega)
  rw [List.drop_zero] at this
  exact this
theorem without_is (xs : List S107) (a : Nat) (h : a < xs.length) (hl : xs.length < 8796093022208) : polderref31_without.f xs (a : Int) = some (xs.eraseIdx a) := by
  have e0 : wrap64 ((a : Int) + 1) = ((a + 1 : Nat) : Int) := IntWalk.wrap64_in ((a : Int) + 1) (by omega)
  have e1 : (((a + 1 : Nat) : Int)).toNat = a + 1 := Int.toNat_natCast _
  have e2 : ((a : Int)).toNat = a := Int.toNat_natCast _
  have l1 : ([] : List S107).length + (xs.take a).length < 8796093022208 := by rw [List.length_nil, List.length_take]; omega
  have l2 : ([] ++ xs.take a : List S107).length + (xs.drop (a + 1)).length < 8796093022208 := by rw [List.nil_append, List.length_take, List.length_drop]; omega
  unfold polderref31_without.f
  rw [e0, e1, e2]
  simp only [Option.bind_some]
  rw [if_pos (by omega), if_pos (by omega), if_pos l1, if_pos (by omega), if_pos (by omega), if_pos l2, List.nil_append, List.eraseIdx_eq_take_drop_succ]

/-- The next tick at which something begins or ends. -/
def nextT (l : List S73) (t : Int) (x : Int) : Int := l.foldl (fun b u => let c := if u.f1 > t then mn b u.f1 else b; if u.f2 > t then mn c u.f2 else c) x
theorem after_ev0 (l : List S73) (hl : l.length ≤ 200) (t : Int) : ∀ d j : Nat, j + d = l.length → ∀ x : Int,
    Ev (fun k => polderref31_after.l0 k l t x (j : Int)) (nextT (l.drop j) t x) := by
  intro d
  induction d with
  | zero =>
    intro j hj x
    have e : l.drop j = [] := by rw [List.drop_eq_nil_iff]; omega
    rw [e]
    refine Ev.step (f := fun _ => some x) (fun k => ?_) (Ev.now _)
    simp only [polderref31_after.l0]
    rw [if_neg (by omega)]
  | succ d ih =>
    intro j hj x
    have e : l.drop j = l[j] :: l.drop (j + 1) := List.drop_eq_getElem_cons (by omega)
    rw [e]
    have e1 : nextT (l[j] :: l.drop (j + 1)) t x = nextT (l.drop (j + 1)) t (let c := if l[j].f1 > t then mn x l[j].f1 else x; if l[j].f2 > t then mn c l[j].f2 else c) := rfl
    rw [e1]
    refine Ev.step (f := fun k => polderref31_after.l0 k l t (let c := if l[j].f1 > t then mn x l[j].f1 else x; if l[j].f2 > t then mn c l[j].f2 else c) ((j + 1 : Nat) : Int)) (fun k => ?_) (ih (j + 1) (by omega) _)
    simp only [polderref31_after.l0]
    rw [rd73_is l j (by omega), if_pos (by omega), if_pos (by omega), IntWalk.wrap64_in _ (by omega)]
    have e2 : ((j : Int) + 1) = ((j + 1 : Nat) : Int) := rfl
    rw [e2]
    by_cases h1 : l[j].f1 > t
    · by_cases h2 : l[j].f2 > t
      · simp only [if_pos h1, if_pos h2]
      · simp only [if_pos h1, if_neg h2]
    · by_cases h2 : l[j].f2 > t
      · simp only [if_neg h1, if_pos h2]
      · simp only [if_neg h1, if_neg h2]
theorem after_ev (l : List S73) (hl : l.length ≤ 200) (t : Int) : Ev (fun k => polderref31_after.f k l t) (nextT l t (endOf l)) := by
  have := after_ev0 l hl t l.length 0 (by omega) (endOf l)
  rw [List.drop_zero] at this
  refine Ev.congr (f := fun k => (polderref31_end.f k l).bind fun t281 => polderref31_after.l0 k l t t281 0) (fun k => rfl) ?_
  exact Ev.bind (end_ev l hl) this

section
variable (l : List S73) (hl : l.length ≤ 200) (hold win limit : Int) (r : Int)

/-- what is held in the end -/
def tailS (e hold : Int) (held : List S107) : Int := (held.map fun x => (e - x.f1) * hold).sum
include hl in
theorem l5_ev (held : List S107) (hh : held.length < 8796093022208) : ∀ d j : Nat, j + d = held.length → ∀ N : Int,
    Ev (fun k => polderref31_most.l5 k l (wrap64 N) held (j : Int) hold win) (wrap64 (N + tailS (endOf l) hold (held.drop j))) := by
  intro d
  induction d with
  | zero =>
    intro j hj N
    have e : held.drop j = [] := by rw [List.drop_eq_nil_iff]; omega
    rw [e]
    refine Ev.step (f := fun _ => some (wrap64 N)) (fun k => ?_) ?_
    · rw [polderref31_most.l5, if_neg (by omega)]
    · simp only [tailS, List.map_nil, List.sum_nil, Int.add_zero]; exact Ev.now _
  | succ d ih =>
    intro j hj N
    have e : held.drop j = held[j] :: held.drop (j + 1) := List.drop_eq_getElem_cons (by omega)
    rw [e]
    refine Ev.step (f := fun k => (polderref31_end.f k l).bind fun t331 => polderref31_most.l5 k l (wrap64 (wrap64 N + wrap64 (wrap64 (t331 - held[j].f1) * hold))) held ((j + 1 : Nat) : Int) hold win) (fun k => ?_) (Ev.bind (end_ev l hl) ?_)
    · rw [polderref31_most.l5, if_pos (by omega)]
      congr 1
      funext t331
      rw [if_pos (by omega), rd107_is held j (by omega), IntWalk.wrap64_in ((j : Int) + 1) (by omega)]
      rfl
    · rw [w_pay]
      have := ih (j + 1) (by omega) (N + (endOf l - held[j].f1) * hold)
      have e3 : N + tailS (endOf l) hold (held[j] :: held.drop (j + 1)) = N + (endOf l - held[j].f1) * hold + tailS (endOf l) hold (held.drop (j + 1)) := by
        simp only [tailS, List.map_cons, List.sum_cons]; omega
      rw [e3]
      exact this

def lessI (x y : S107) : Prop := x.f1 < y.f1 ∨ (x.f1 = y.f1 ∧ x.f0 < y.f0)
theorem l4_ev (t N : Int) (held : List S107) (hh : held.length < 8796093022208)
    (H : ∀ a : Nat, ∀ ha : a < held.length, (∀ k : Nat, ∀ hk : k < held.length, ¬ lessI held[k] held[a]) → Ev (fun k => polderref31_most.l3 k l limit (wrap64 (N + (t - held[a].f1) * hold)) (held.eraseIdx a) t hold win) r) :
    ∀ d j a : Nat, j + d = held.length → ∀ ha : a < held.length, (∀ k : Nat, ∀ hk : k < held.length, k < j → ¬ lessI held[k] held[a]) →
    Ev (fun k => polderref31_most.l4 k l limit (wrap64 N) held t (a : Int) (j : Int) hold win) r := by
  intro d
  induction d with
  | zero =>
    intro j a hj ha hm
    refine Ev.step (f := fun k => polderref31_most.l3 k l limit (wrap64 (N + (t - held[a].f1) * hold)) (held.eraseIdx a) t hold win) (fun k => ?_) (H a ha (fun k hk => hm k hk (by omega)))
    rw [polderref31_most.l4, if_neg (by omega), if_pos (by omega), if_pos (by omega), without_is held a ha hh, Option.bind_some, rd107_is held a ha, w_pay]
  | succ d ih =>
    intro j a hj ha hm
    have hjl : j < held.length := by omega
    by_cases hless : lessI held[j] held[a]
    · refine Ev.step (f := fun k => polderref31_most.l4 k l limit (wrap64 N) held t (j : Int) ((j + 1 : Nat) : Int) hold win) (fun k => ?_) (ih (j + 1) j (by omega) hjl ?_)
      · rw [polderref31_most.l4, rd107_is held a ha, rd107_is held j hjl, if_pos (by omega), if_pos (by omega), if_pos (by omega), if_pos (by omega), IntWalk.wrap64_in ((j : Int) + 1) (by omega)]
        have e2 : ((j : Int) + 1) = ((j + 1 : Nat) : Int) := rfl
        rw [e2]
        rcases hless with h1 | ⟨h1, h2⟩
        · rw [if_pos h1]
        · rw [if_neg (by omega), if_pos h1, if_pos h2]
      · intro k hk hkj hl2
        by_cases hkj2 : k = j
        · subst hkj2
          unfold lessI at hl2
          omega
        · have := hm k hk (by omega)
          unfold lessI at *
          omega
    · refine Ev.step (f := fun k => polderref31_most.l4 k l limit (wrap64 N) held t (a : Int) ((j + 1 : Nat) : Int) hold win) (fun k => ?_) (ih (j + 1) a (by omega) ha ?_)
      · rw [polderref31_most.l4, rd107_is held a ha, rd107_is held j hjl, if_pos (by omega), if_pos (by omega), if_pos (by omega), if_pos (by omega), IntWalk.wrap64_in ((j : Int) + 1) (by omega)]
        have e2 : ((j : Int) + 1) = ((j + 1 : Nat) : Int) := rfl
        rw [e2]
        unfold lessI at hless
        rw [if_neg (by omega)]
        by_cases h1 : held[j].f1 = held[a].f1
        · rw [if_pos h1, if_neg (by omega)]
        · rw [if_neg h1]
      · intro k hk hkj
        by_cases hkj2 : k = j
        · subst hkj2
          exact hless
        · exact hm k hk (by omega)

include hl in
theorem l2_ev (t N : Int) : ∀ d j : Nat, j + d = l.length → ∀ held : List S107, held.length + d < 8796093022208 →
    Ev (fun k => polderref31_most.l3 k l limit (wrap64 N) (held ++ ((l.drop j).filter (fun u => u.f2 == t)).map (fun u => (⟨u.f0, t⟩ : S107))) t hold win) r →
    Ev (fun k => polderref31_most.l2 k l limit (wrap64 N) held t (j : Int) hold win) r := by
  intro d
  induction d with
  | zero =>
    intro j hj held hh H
    have e : l.drop j = [] := by rw [List.drop_eq_nil_iff]; omega
    rw [e] at H
    refine Ev.step (fun k => ?_) H
    rw [polderref31_most.l2, if_neg (by omega)]
    simp
  | succ d ih =>
    intro j hj held hh H
    have hjl : j < l.length := by omega
    have e : l.drop j = l[j] :: l.drop (j + 1) := List.drop_eq_getElem_cons (by omega)
    rw [e, List.filter_cons] at H
    by_cases hp : l[j].f2 = t
    · rw [if_pos (by simpa using hp)] at H
      refine Ev.step (f := fun k => polderref31_most.l2 k l limit (wrap64 N) (held ++ [(⟨l[j].f0, t⟩ : S107)]) t ((j + 1 : Nat) : Int) hold win) (fun k => ?_) (ih (j + 1) (by omega) (held ++ [(⟨l[j].f0, t⟩ : S107)]) (by rw [List.length_append, List.length_singleton]; omega) ?_)
      · rw [polderref31_most.l2, if_pos (by omega), if_pos (by omega), rd73_is l j hjl, if_pos hp, if_pos (by omega), IntWalk.wrap64_in ((j : Int) + 1) (by omega)]
        rfl
      · simpa using H
    · rw [if_neg (by simpa using hp)] at H
      refine Ev.step (f := fun k => polderref31_most.l2 k l limit (wrap64 N) held t ((j + 1 : Nat) : Int) hold win) (fun k => ?_) (ih (j + 1) (by omega) _ (by omega) H)
      rw [polderref31_most.l2, if_pos (by omega), if_pos (by omega), rd73_is l j hjl, if_neg hp, IntWalk.wrap64_in ((j : Int) + 1) (by omega)]
      rfl

/-- A use begins, as the reference has it. -/
def refB (hold win t : Int) (st : Int × List S107) (u : S73) : Int × List S107 :=
  match idx107 u.f0 st.2 with
  | none => (st.1 + win, st.2)
  | some i => (st.1 + (t - (rd_T107 st.2 (i : Int)).f1) * hold, st.2.eraseIdx i)
theorem refB_len (hold win t : Int) (st : Int × List S107) (u : S73) : (refB hold win t st u).2.length ≤ st.2.length := by
  unfold refB
  split
  · exact Nat.le_refl _
  · simp only [List.length_eraseIdx]; split <;> omega
include hl in
theorem l1_ev (t : Int) : ∀ d j : Nat, j + d = l.length → ∀ (N : Int) (held : List S107), held.length < 8796093022208 →
    Ev (fun k => polderref31_most.l2 k l limit (wrap64 (((l.drop j).filter (fun u => u.f1 == t)).foldl (refB hold win t) (N, held)).1) (((l.drop j).filter (fun u => u.f1 == t)).foldl (refB hold win t) (N, held)).2 t 0 hold win) r →
    Ev (fun k => polderref31_most.l1 k l limit (wrap64 N) held t (j : Int) hold win) r := by
  intro d
  induction d with
  | zero =>
    intro j hj N held hh H
    have e : l.drop j = [] := by rw [List.drop_eq_nil_iff]; omega
    rw [e] at H
    refine Ev.step (fun k => ?_) H
    rw [polderref31_most.l1, if_neg (by omega)]
    simp
  | succ d ih =>
    intro j hj N held hh H
    have hjl : j < l.length := by omega
    have e : l.drop j = l[j] :: l.drop (j + 1) := List.drop_eq_getElem_cons (by omega)
    rw [e, List.filter_cons] at H
    by_cases hp : l[j].f1 = t
    · rw [if_pos (by simpa using hp), List.foldl_cons] at H
      have hlen := refB_len hold win t (N, held) l[j]
      have hN := ih (j + 1) (by omega) (refB hold win t (N, held) l[j]).1 (refB hold win t (N, held) l[j]).2 (Nat.lt_of_le_of_lt hlen hh) H
      clear H
      refine Ev.step (f := fun k => (polderref31_find.f k held l[j].f0).bind fun t311 => (if t311 < 0 then (polderref31_most.l1 k l limit (wrap64 (wrap64 N + win)) held t (wrap64 ((j : Int) + 1)) hold win) else (if 0 ≤ t311 then (if t311 < (held.length : Int) then ((polderref31_without.f held t311).bind fun t313 => (polderref31_most.l1 k l limit (wrap64 (wrap64 N + (wrap64 ((wrap64 (t - ((rd_T107 held t311).f1))) * hold)))) t313 t (wrap64 ((j : Int) + 1)) hold win)) else (none)) else (none)))) (fun k => ?_) (Ev.bind (find_ev held hh l[j].f0) ?_)
      · rw [polderref31_most.l1, if_pos (by omega), if_pos (by omega), rd73_is l j hjl, if_pos hp]
      · have e2 : wrap64 ((j : Int) + 1) = ((j + 1 : Nat) : Int) := IntWalk.wrap64_in ((j : Int) + 1) (by omega)
        rw [e2]
        unfold refB at hN
        cases hi : idx107 l[j].f0 held with
        | none =>
          rw [hi] at hN
          refine Ev.congr (fun k => by rw [if_pos (by simp only [idxI]; omega), w_add]) hN
        | some i =>
          rw [hi] at hN
          have hil : i < held.length := by
            unfold idx107 at hi
            rw [List.findIdx?_eq_some_iff_getElem] at hi
            exact hi.1
          have e3 : idxI (some i) 0 = (i : Int) := by simp [idxI]
          rw [e3]
          refine Ev.congr (fun k => ?_) hN
          rw [if_neg (by omega), if_pos (by omega), if_pos (by omega), without_is held i hil hh, Option.bind_some, w_pay]
    · rw [if_neg (by simpa using hp)] at H
      refine Ev.step (f := fun k => polderref31_most.l1 k l limit (wrap64 N) held t ((j + 1 : Nat) : Int) hold win) (fun k => ?_) (ih (j + 1) (by omega) N held hh H)
      rw [polderref31_most.l1, if_pos (by omega), if_pos (by omega), rd73_is l j hjl, if_neg hp, IntWalk.wrap64_in ((j : Int) + 1) (by omega)]
      rfl
end
end Go.Proofs.Ytdkfmbammdmohaa.PPolicyCosts
