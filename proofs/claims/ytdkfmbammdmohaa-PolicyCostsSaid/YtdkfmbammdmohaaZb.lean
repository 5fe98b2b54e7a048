/- What the code makes of the steps tick by tick, and what the reference holds beside it. -/
import Derived.Test.YtdkfmbammdmohaaZa
import Derived.Test.YtdkfmbammdmohaaZ7
namespace Go.Proofs.Ytdkfmbammdmohaa.PPolicyCosts
open Go.RowKit Go.Proofs.YtdkfmbammdmohaaW.PrintWords Go.Proofs.YtdkfmbammdmohaaW.PrintLast Go.Proofs.YtdkfmbammdmohaaW.PrintMore
open Go.Proofs.YtdkfmbammdmohaaM Go.Proofs.YtdkfmbammdmohaaS
set_option linter.unusedVariables false
set_option linter.unusedSimpArgs false

theorem rd98_is (l : List S98) (k : Nat) (h : k < l.length) : rd_T98 l (k : Int) = l[k] := by
  unfold rd_T98
  rw [Int.toNat_natCast, List.getD_eq_getElem?_getD, List.getElem?_eq_getElem h]
  rfl
theorem rd90_is (l : List S90) (k : Nat) (h : k < l.length) : rd_T90 l (k : Int) = l[k] := by
  unfold rd_T90
  rw [Int.toNat_natCast, List.getD_eq_getElem?_getD, List.getElem?_eq_getElem h]
  rfl

/-! The code's steps without wraps. -/
def evictX (hold a limit : Int) : Int → List S98 → Int × List S98
  | n, [] => (n, [])
  | n, x :: q => if limit < ((x :: q).length : Int) then evictX hold a limit (n + (a - x.f0) * hold) q else (n, x :: q)
theorem evict_wrap (hold a limit : Int) : ∀ (q : List S98) (N : Int), evict hold a limit (wrap64 N) q = (wrap64 (evictX hold a limit N q).1, (evictX hold a limit N q).2)
  | [], N => rfl
  | x :: q, N => by
    rw [evict, evictX]
    split
    · rw [w_pay]; exact evict_wrap hold a limit q _
    · rfl
theorem evictX_stop (hold a limit N : Int) (q : List S98) (h : (q.length : Int) ≤ limit) : evictX hold a limit N q = (N, q) := by
  cases q with
  | nil => rfl
  | cons x q => rw [evictX, if_neg (by omega)]
def beginX (hold win t : Int) (st : Int × List S98) (p : Int) : Int × List S98 :=
  match st.2.findIdx? (fun y => y.f1 == p) with
  | none => (st.1 + win, st.2)
  | some i => (st.1 + (t - (rd_T98 st.2 (i : Int)).f0) * hold, st.2.eraseIdx i)
def stepX (hold win limit : Int) (lastT : Bool) (s : S90) (st : Int × List S98) : Int × List S98 :=
  if s.f1 = true then beginX hold win s.f0 st s.f2
  else if lastT = true then evictX hold s.f0 limit st.1 (st.2 ++ [⟨s.f0, s.f2⟩]) else (st.1, st.2 ++ [⟨s.f0, s.f2⟩])
theorem step_wrap (hold win limit : Int) (b : Bool) (s : S90) (N : Int) (q : List S98) : stepQ hold win limit b s (wrap64 N, q) = (wrap64 (stepX hold win limit b s (N, q)).1, (stepX hold win limit b s (N, q)).2) := by
  unfold stepQ stepX
  split
  · unfold beginX idxW
    simp only
    cases hq : q.findIdx? (fun y => y.f1 == s.f2) with
    | none => simp only; rw [if_pos (by omega), w_add]
    | some i => simp only; rw [if_neg (by omega), w_pay, Int.toNat_natCast]
  · split
    · exact evict_wrap hold s.f0 limit _ N
    · rfl
def lastL (s : S90) : List S90 → Bool
  | [] => true
  | y :: _ => decide (y.f0 > s.f0)
def runX (hold win limit : Int) : Int × List S98 → List S90 → Int × List S98
  | st, [] => st
  | st, s :: r => runX hold win limit (stepX hold win limit (lastL s r) s st) r
theorem lastAt_is (ss : List S90) (i : Nat) (h : i < ss.length) : lastAt ss i = lastL ss[i] (ss.drop (i + 1)) := by
  unfold lastAt
  by_cases h2 : i + 1 < ss.length
  · have e : ss.drop (i + 1) = ss[i + 1] :: ss.drop (i + 2) := List.drop_eq_getElem_cons h2
    have e1 : ((i : Int) + 1) = ((i + 1 : Nat) : Int) := rfl
    rw [e, e1, rd90_is ss _ h2, rd90_is ss i h]
    have e2 : decide (i + 1 = ss.length) = false := decide_eq_false (by omega)
    rw [e2, Bool.false_or]
    rfl
  · have e : ss.drop (i + 1) = [] := by rw [List.drop_eq_nil_iff]; omega
    have e2 : decide (i + 1 = ss.length) = true := decide_eq_true (by omega)
    rw [e, e2, Bool.true_or]
    rfl
theorem runQ_runX0 (hold win limit : Int) (ss : List S90) : ∀ k : Nat, k ≤ ss.length → ∃ st : Int × List S98, runQ hold win limit ss k = (wrap64 st.1, st.2) ∧ runX hold win limit st (ss.drop k) = runX hold win limit (0, []) ss
  | 0, _ => ⟨(0, []), by
      have e0 : wrap64 0 = 0 := by unfold wrap64; omega
      simp only [e0]
      rfl, by rw [List.drop_zero]⟩
  | k + 1, hk => by
    obtain ⟨st, h1, h2⟩ := runQ_runX0 hold win limit ss k (by omega)
    have hkl : k < ss.length := by omega
    refine ⟨stepX hold win limit (lastL ss[k] (ss.drop (k + 1))) ss[k] st, ?_, ?_⟩
    · rw [runQ, h1, step_wrap, rd90_is ss k hkl, lastAt_is ss k hkl]
    · rw [← h2, List.drop_eq_getElem_cons hkl, runX]
theorem runQ_runX (hold win limit : Int) (ss : List S90) : runQ hold win limit ss ss.length = (wrap64 (runX hold win limit (0, []) ss).1, (runX hold win limit (0, []) ss).2) := by
  obtain ⟨st, h1, h2⟩ := runQ_runX0 hold win limit ss ss.length (Nat.le_refl _)
  rw [List.drop_length, runX] at h2
  rw [h1, h2]
def tailX (e hold : Int) (q : List S98) : Int := (q.map fun x => (e - x.f0) * hold).sum
theorem tail_wrap (hold e : Int) : ∀ (q : List S98) (N : Int), tailQ hold e (wrap64 N) q = wrap64 (N + tailX e hold q)
  | [], N => by simp [tailQ, tailX]
  | x :: q, N => by
    have h := tail_wrap hold e q (N + (e - x.f0) * hold)
    have e1 : tailQ hold e (wrap64 N) (x :: q) = tailQ hold e (wrap64 (wrap64 N + wrap64 (wrap64 (e - x.f0) * hold))) q := rfl
    rw [e1, w_pay, h]
    simp only [tailX, List.map_cons, List.sum_cons, Int.add_assoc]
theorem mostQ_is (hold win limit e : Int) (ss : List S90) : mostQ hold win limit e ss = wrap64 ((runX hold win limit (0, []) ss).1 + tailX e hold (runX hold win limit (0, []) ss).2) := by
  unfold mostQ
  rw [runQ_runX]
  exact tail_wrap hold e _ _

theorem runX_begins (hold win limit t : Int) (R : List S90) : ∀ (B : List S73) (st : Int × List S98), runX hold win limit st (B.map (fun u => (⟨t, true, u.f0⟩ : S90)) ++ R) = runX hold win limit (B.foldl (fun st u => beginX hold win t st u.f0) st) R
  | [], st => rfl
  | u :: B, st => by
    rw [List.map_cons, List.cons_append, runX, List.foldl_cons, ← runX_begins hold win limit t R B]
    rfl
def wQ (s : S90) : S98 := ⟨s.f0, s.f2⟩
theorem lastL_new (s : S90) (R : List S90) (h : ∀ y ∈ R, s.f0 < y.f0) : lastL s R = true := by
  cases R with
  | nil => rfl
  | cons y R => exact decide_eq_true (h y (by simp))
theorem runX_ends0 (hold win limit t : Int) (R : List S90) (hR : ∀ y ∈ R, t < y.f0) : ∀ (E : List S90) (s : S90), (∀ y ∈ s :: E, y.f0 = t ∧ y.f1 = false) → ∀ (N : Int) (q : List S98),
    runX hold win limit (N, q) (s :: E ++ R) = runX hold win limit (evictX hold t limit N (q ++ (s :: E).map wQ)) R
  | [], s, hE, N, q => by
    obtain ⟨h1, h2⟩ := hE s (by simp)
    have e : s :: [] ++ R = s :: R := rfl
    rw [e, runX, lastL_new s R (fun y hy => by rw [h1]; exact hR y hy)]
    unfold stepX
    rw [h2, if_neg (by decide), if_pos rfl, h1]
    simp only [List.map_cons, List.map_nil, wQ, h1]
  | s2 :: E, s, hE, N, q => by
    obtain ⟨h1, h2⟩ := hE s (by simp)
    obtain ⟨h3, h4⟩ := hE s2 (by simp)
    have e : s :: s2 :: E ++ R = s :: (s2 :: E ++ R) := rfl
    have e2 : lastL s (s2 :: E ++ R) = false := decide_eq_false (by rw [h1, h3]; omega)
    have e3 : stepX hold win limit false s (N, q) = (N, q ++ [wQ s]) := by
      unfold stepX
      rw [h2, if_neg (by decide), if_neg (by decide)]
      rfl
    rw [e, runX, e2, e3, runX_ends0 hold win limit t R hR E s2 (fun y hy => hE y (List.mem_cons_of_mem _ hy)) N (q ++ [wQ s])]
    simp
theorem runX_ends (hold win limit t : Int) (R : List S90) (hR : ∀ y ∈ R, t < y.f0) (E : List S90) (hE : ∀ y ∈ E, y.f0 = t ∧ y.f1 = false) (N : Int) (q : List S98) (hq : (q.length : Int) ≤ limit) :
    runX hold win limit (N, q) (E ++ R) = runX hold win limit (evictX hold t limit N (q ++ E.map wQ)) R := by
  cases E with
  | nil => rw [List.map_nil, List.append_nil, evictX_stop hold t limit N q hq]; rfl
  | cons s E => exact runX_ends0 hold win limit t R hR E s hE N q

/-! The reference beside it. -/
def sw (x : S98) : S107 := ⟨x.f1, x.f0⟩
def lexQ (x y : S98) : Prop := x.f0 < y.f0 ∨ (x.f0 = y.f0 ∧ x.f1 < y.f1)
theorem perm_eraseIdx {α : Type} (l : List α) (i : Nat) (h : i < l.length) : l.Perm (l[i] :: l.eraseIdx i) := by
  rw [List.eraseIdx_eq_take_drop_succ]
  have e : l = l.take i ++ l[i] :: l.drop (i + 1) := by
    rw [← List.drop_eq_getElem_cons h, List.take_append_drop]
  conv => lhs; rw [e]
  exact List.perm_middle
theorem nodup_inj {α : Type} {f : α → Int} : ∀ {l : List α}, (l.map f).Nodup → ∀ {x y : α}, x ∈ l → y ∈ l → f x = f y → x = y
  | [], _, _, _, h, _, _ => by cases h
  | a :: l, hn, x, y, hx, hy, he => by
    rw [List.map_cons, List.nodup_cons] at hn
    rcases List.mem_cons.1 hx with rfl | hx2
    · rcases List.mem_cons.1 hy with rfl | hy2
      · rfl
      · exact absurd (he ▸ List.mem_map_of_mem hy2) hn.1
    · rcases List.mem_cons.1 hy with rfl | hy2
      · exact absurd (he ▸ List.mem_map_of_mem hx2) hn.1
      · exact nodup_inj hn.2 hx2 hy2 he
theorem begin1_sim (hold win t N : Int) (q : List S98) (held : List S107) (u : S73) (hp : held.Perm (q.map sw)) (hn : (q.map (·.f1)).Nodup) :
    ∃ N' q' held', beginX hold win t (N, q) u.f0 = (N', q') ∧ refB hold win t (N, held) u = (N', held') ∧ held'.Perm (q'.map sw) ∧ q'.Sublist q ∧ u.f0 ∉ q'.map (·.f1) := by
  unfold beginX refB idx107
  simp only
  cases hq : q.findIdx? (fun y => y.f1 == u.f0) with
  | none =>
    rw [List.findIdx?_eq_none_iff] at hq
    have hh : held.findIdx? (fun x => x.f0 == u.f0) = none := by
      rw [List.findIdx?_eq_none_iff]
      intro x hx
      have := hp.mem_iff.1 hx
      rw [List.mem_map] at this
      obtain ⟨y, hy, rfl⟩ := this
      exact hq y hy
    rw [hh]
    refine ⟨_, _, _, rfl, rfl, hp, List.Sublist.refl _, fun h => ?_⟩
    rw [List.mem_map] at h
    obtain ⟨y, hy, he⟩ := h
    have := hq y hy
    simp [he] at this
  | some i =>
    rw [List.findIdx?_eq_some_iff_getElem] at hq
    obtain ⟨hi, hpi, _⟩ := hq
    have hpi : q[i].f1 = u.f0 := by simpa using hpi
    have hqm : q[i] ∈ q := List.getElem_mem hi
    cases hh : held.findIdx? (fun x => x.f0 == u.f0) with
    | none =>
      rw [List.findIdx?_eq_none_iff] at hh
      have := hh (sw q[i]) (hp.mem_iff.2 (List.mem_map_of_mem hqm))
      simp [sw, hpi] at this
    | some j =>
      rw [List.findIdx?_eq_some_iff_getElem] at hh
      obtain ⟨hj, hpj, _⟩ := hh
      have hpj : held[j].f0 = u.f0 := by simpa using hpj
      have hm := hp.mem_iff.1 (List.getElem_mem hj)
      rw [List.mem_map] at hm
      obtain ⟨y, hy, hey⟩ := hm
      have hy1 : y.f1 = u.f0 := by
        have : (sw y).f0 = held[j].f0 := by rw [hey]
        rw [hpj] at this
        exact this
      have hyq : y = q[i] := nodup_inj hn hy hqm (by rw [hy1, hpi])
      subst hyq
      refine ⟨_, _, held.eraseIdx j, rfl, ?_, ?_, List.eraseIdx_sublist _ _, ?_⟩
      · simp only
        rw [rd107_is held j hj, rd98_is q i hi, ← hey]
        rfl
      · have p1 := perm_eraseIdx held j hj
        have p2 := (perm_eraseIdx q i hi).map sw
        rw [List.map_cons, hey] at p2
        exact (p1.symm.trans (hp.trans p2)).cons_inv
      · have p2 := (perm_eraseIdx q i hi).map (·.f1)
        rw [p2.nodup_iff, List.map_cons, List.nodup_cons] at hn
        intro h
        exact hn.1 (by rw [hpi]; exact h)
theorem begin_sim (hold win t : Int) : ∀ (B : List S73) (N : Int) (q : List S98) (held : List S107), held.Perm (q.map sw) → (q.map (·.f1)).Nodup →
    ∃ N' q' held', B.foldl (fun st u => beginX hold win t st u.f0) (N, q) = (N', q') ∧ B.foldl (refB hold win t) (N, held) = (N', held') ∧ held'.Perm (q'.map sw) ∧ q'.Sublist q ∧ ∀ u ∈ B, u.f0 ∉ q'.map (·.f1)
  | [], N, q, held, hp, hn => ⟨N, q, held, rfl, rfl, hp, List.Sublist.refl _, fun u hu => by cases hu⟩
  | u :: B, N, q, held, hp, hn => by
    obtain ⟨N1, q1, h1, e1, e2, p1, s1, m1⟩ := begin1_sim hold win t N q held u hp hn
    obtain ⟨N2, q2, h2, e3, e4, p2, s2, m2⟩ := begin_sim hold win t B N1 q1 h1 p1 (List.Nodup.sublist (s1.map _) hn)
    refine ⟨N2, q2, h2, by rw [List.foldl_cons, e1, e3], by rw [List.foldl_cons, e2, e4], p2, s2.trans s1, fun v hv => ?_⟩
    rcases List.mem_cons.1 hv with rfl | hv
    · exact fun h => m1 ((s2.map _).subset h)
    · exact m2 v hv

theorem split_sorted {α : Type} {R : α → α → Prop} (p : α → Bool) : ∀ (l : List α), l.Pairwise R → (∀ x ∈ l, ∀ y ∈ l, R x y → p y = true → p x = true) → l = l.filter p ++ l.filter (fun x => !p x)
  | [], _, _ => rfl
  | x :: l, hs, hp => by
    rw [List.pairwise_cons] at hs
    have ih := split_sorted p l hs.2 (fun a ha b hb => hp a (List.mem_cons_of_mem _ ha) b (List.mem_cons_of_mem _ hb))
    cases hx : p x with
    | true =>
      rw [List.filter_cons, if_pos hx, List.filter_cons, if_neg (by simp [hx]), List.cons_append, ← ih]
    | false =>
      have hf : ∀ y ∈ l, p y = false := by
        intro y hy
        cases hy2 : p y with
        | false => rfl
        | true => rw [hp x (by simp) y (List.mem_cons_of_mem _ hy) (hs.1 y hy) hy2] at hx; cases hx
      have e1 : l.filter p = [] := by rw [List.filter_eq_nil_iff]; intro y hy; rw [hf y hy]; decide
      have e2 : l.filter (fun x => !p x) = l := by rw [List.filter_eq_self]; intro y hy; rw [hf y hy]; rfl
      rw [List.filter_cons, if_neg (by rw [hx]; decide), e1, List.filter_cons, if_pos (by simp [hx]), e2, List.nil_append]

/-- What is used of a proper trace. -/
structure LF (l : List S73) : Prop where
  pos : ∀ u ∈ l, 0 ≤ u.f1 ∧ u.f1 < u.f2
  srt : l.Pairwise (fun a b => a.f1 < b.f1 ∨ (a.f1 = b.f1 ∧ a.f0 < b.f0))
  dis : l.Pairwise (fun a b => a.f0 = b.f0 → a.f2 < b.f1)
theorem okTrace_srt (l : List S73) : okTrace l = true → l.Pairwise (fun a b => a.f1 < b.f1 ∨ (a.f1 = b.f1 ∧ a.f0 < b.f0)) := by
  refine snoc_ind (P := fun l => okTrace l = true → l.Pairwise (fun a b => a.f1 < b.f1 ∨ (a.f1 = b.f1 ∧ a.f0 < b.f0))) (fun _ => List.Pairwise.nil) ?_ l
  intro l u ih h
  rw [okTrace_snoc, Bool.and_eq_true] at h
  have hs := ih h.1
  rw [List.pairwise_append]
  refine ⟨hs, by simp, fun a ha b hb => ?_⟩
  simp at hb
  subst hb
  have h2 := h.2
  unfold okAt at h2
  rw [Bool.and_eq_true] at h2
  rcases List.eq_nil_or_concat l with rfl | ⟨l', v, rfl⟩
  · cases ha
  · have h3 := h2.1
    rw [List.concat_eq_append] at h3 ha hs
    rw [List.getLast?_concat] at h3
    have h3 : v.f1 < b.f1 ∨ (v.f1 = b.f1 ∧ v.f0 < b.f0) := by simpa [after] using h3
    rw [List.mem_append] at ha
    rcases ha with ha | ha
    · rw [List.pairwise_append] at hs
      have := hs.2.2 a ha v (by simp)
      omega
    · simp at ha
      subst ha
      exact h3
theorem lf_of {l : List S73} (c2 : l.any wrongU = false) (c3 : okTrace l = true) : LF l := by
  refine ⟨fun u hu => ?_, okTrace_srt l c3, ?_⟩
  · have := right_bd (u := u) (by rw [List.any_eq_false] at c2; simpa using c2 u hu)
    omega
  · have ho := (ord_both l c2).1.1 c3
    rw [List.pairwise_iff_getElem]
    intro i j hi hj hij he
    have := (ho j hj).2 i hij
    rw [rd73_is l i hi, rd73_is l j hj] at this
    exact this he
theorem LF.apart {l : List S73} (h : LF l) {u v : S73} (hu : u ∈ l) (hv : v ∈ l) (hp : u.f0 = v.f0) (hne : u ≠ v) : u.f2 < v.f1 ∨ v.f2 < u.f1 := by
  obtain ⟨i, hi, rfl⟩ := List.getElem_of_mem hu
  obtain ⟨j, hj, rfl⟩ := List.getElem_of_mem hv
  have hd := List.pairwise_iff_getElem.1 h.dis
  rcases Nat.lt_trichotomy i j with h1 | h1 | h1
  · exact .inl (hd i j hi hj h1 hp)
  · subst h1; exact absurd rfl hne
  · exact .inr (hd j i hj hi h1 hp.symm)

theorem steps_begins (t t' : Int) : ∀ l : List S73, (∀ u ∈ l, t < u.f1 → t' ≤ u.f1) → t < t' →
    (stepsOf l).filter (fun s => (decide (t < s.f0) && decide (s.f0 ≤ t')) && s.f1) = (l.filter (fun u => u.f1 == t')).map (fun u => (⟨t', true, u.f0⟩ : S90))
  | [], _, _ => rfl
  | u :: l, h, ht => by
    have ih := steps_begins t t' l (fun v hv => h v (List.mem_cons_of_mem _ hv)) ht
    have e : stepsOf (u :: l) = ⟨u.f1, true, u.f0⟩ :: ⟨u.f2, false, u.f0⟩ :: stepsOf l := rfl
    have hu := h u (by simp)
    rw [e, List.filter_cons, List.filter_cons, ih, List.filter_cons]
    simp only [Bool.and_false, Bool.and_true, if_false, Bool.false_eq_true]
    by_cases h1 : u.f1 = t'
    · subst h1
      rw [if_pos (by simp; omega), if_pos (by simp), List.map_cons]
    · rw [if_neg (by simp; omega), if_neg (by simpa using h1)]
theorem steps_ends (t t' : Int) : ∀ l : List S73, (∀ u ∈ l, t < u.f2 → t' ≤ u.f2) → t < t' →
    (stepsOf l).filter (fun s => (decide (t < s.f0) && decide (s.f0 ≤ t')) && !s.f1) = (l.filter (fun u => u.f2 == t')).map (fun u => (⟨t', false, u.f0⟩ : S90))
  | [], _, _ => rfl
  | u :: l, h, ht => by
    have ih := steps_ends t t' l (fun v hv => h v (List.mem_cons_of_mem _ hv)) ht
    have e : stepsOf (u :: l) = ⟨u.f1, true, u.f0⟩ :: ⟨u.f2, false, u.f0⟩ :: stepsOf l := rfl
    have hu := h u (by simp)
    rw [e, List.filter_cons, List.filter_cons, ih, List.filter_cons]
    simp only [Bool.not_true, Bool.not_false, Bool.and_false, Bool.and_true, if_false, Bool.false_eq_true]
    by_cases h1 : u.f2 = t'
    · subst h1
      rw [if_pos (by simp; omega), if_pos (by simp), List.map_cons]
    · rw [if_neg (by simp; omega), if_neg (by simpa using h1)]

def SortedS (ss : List S90) : Prop := ss.Pairwise (fun x y => ltOf cmpStep y x = false)
theorem tick_split {l : List S73} {ss : List S90} (hl : LF l) (hp : ss.Perm (stepsOf l)) (hs : SortedS ss) (t t' : Int) (ht : t < t') (h1 : ∀ u ∈ l, t < u.f1 → t' ≤ u.f1) (h2 : ∀ u ∈ l, t < u.f2 → t' ≤ u.f2) :
    ∃ E : List S90, ss.filter (fun s => decide (t < s.f0)) = (l.filter (fun u => u.f1 == t')).map (fun u => (⟨t', true, u.f0⟩ : S90)) ++ (E ++ ss.filter (fun s => decide (t' < s.f0))) ∧
      E.Perm ((l.filter (fun u => u.f2 == t')).map (fun u => (⟨t', false, u.f0⟩ : S90))) ∧ SortedS E := by
  have hsub : ∀ p : S90 → Bool, SortedS (ss.filter p) := fun p => List.Pairwise.sublist List.filter_sublist hs
  have d1 := split_sorted (R := fun x y => ltOf cmpStep y x = false) (fun s => decide (s.f0 ≤ t')) (ss.filter (fun s => decide (t < s.f0))) (hsub _) (fun x _ y _ hR hy => by
    rw [lt_cmpStep] at hR
    simp at hR hy ⊢
    omega)
  rw [List.filter_filter, List.filter_filter] at d1
  have e1 : ss.filter (fun a => !decide (a.f0 ≤ t') && decide (t < a.f0)) = ss.filter (fun s => decide (t' < s.f0)) := by
    refine List.filter_congr (fun x _ => ?_)
    rw [Bool.eq_iff_iff]
    simp
    omega
  rw [e1] at d1
  have d2 := split_sorted (R := fun x y => ltOf cmpStep y x = false) (fun s => s.f1) (ss.filter (fun a => decide (a.f0 ≤ t') && decide (t < a.f0))) (hsub _) (fun x hx y hy hR h => by
    have ex : x.f0 = t' := by
      have hxm := List.mem_filter.1 hx
      have hxs := hp.mem_iff.1 hxm.1
      unfold stepsOf at hxs
      rw [List.mem_flatMap] at hxs
      obtain ⟨u, hu, hux⟩ := hxs
      have a1 := h1 u hu
      have a2 := h2 u hu
      have := hxm.2
      simp at this hux
      rcases hux with rfl | rfl <;> simp at this ⊢ <;> omega
    have ey : y.f0 = t' := by
      have hxm := List.mem_filter.1 hy
      have hxs := hp.mem_iff.1 hxm.1
      unfold stepsOf at hxs
      rw [List.mem_flatMap] at hxs
      obtain ⟨u, hu, hux⟩ := hxs
      have a1 := h1 u hu
      have a2 := h2 u hu
      have := hxm.2
      simp at this hux
      rcases hux with rfl | rfl <;> simp at this ⊢ <;> omega
    rw [lt_cmpStep, ex, ey] at hR
    have h : y.f1 = true := h
    show x.f1 = true
    rw [h] at hR
    cases hx1 : x.f1 with
    | true => rfl
    | false => rw [hx1] at hR; simp at hR)
  rw [List.filter_filter, List.filter_filter] at d2
  refine ⟨ss.filter (fun a => !a.f1 && (decide (a.f0 ≤ t') && decide (t < a.f0))), ?_, ?_, hsub _⟩
  · have hB : ss.filter (fun a => a.f1 && (decide (a.f0 ≤ t') && decide (t < a.f0))) = (l.filter (fun u => u.f1 == t')).map (fun u => (⟨t', true, u.f0⟩ : S90)) := by
      have hpB : (ss.filter (fun a => a.f1 && (decide (a.f0 ≤ t') && decide (t < a.f0)))).Perm ((l.filter (fun u => u.f1 == t')).map (fun u => (⟨t', true, u.f0⟩ : S90))) := by
        rw [← steps_begins t t' l h1 ht]
        have e2 : ss.filter (fun a => a.f1 && (decide (a.f0 ≤ t') && decide (t < a.f0))) = ss.filter (fun s => (decide (t < s.f0) && decide (s.f0 ≤ t')) && s.f1) := by
          refine List.filter_congr (fun x _ => ?_)
          cases x.f1 <;> cases decide (t < x.f0) <;> cases decide (x.f0 ≤ t') <;> rfl
        rw [e2]
        exact hp.filter _
      refine steps_unique hpB (hsub _) ?_
      rw [List.pairwise_map]
      refine List.Pairwise.imp_of_mem ?_ (List.Pairwise.sublist List.filter_sublist hl.srt)
      intro a b ha hb hab
      have ha2 := (List.mem_filter.1 ha).2
      have hb2 := (List.mem_filter.1 hb).2
      rw [lt_cmpStep]
      simp at ha2 hb2 ⊢
      omega
    rw [d1, d2, hB, List.append_assoc]
  · rw [← steps_ends t t' l h2 ht]
    have e2 : ss.filter (fun a => !a.f1 && (decide (a.f0 ≤ t') && decide (t < a.f0))) = ss.filter (fun s => (decide (t < s.f0) && decide (s.f0 ≤ t')) && !s.f1) := by
      refine List.filter_congr (fun x _ => ?_)
      cases x.f1 <;> cases decide (t < x.f0) <;> cases decide (x.f0 ≤ t') <;> rfl
    rw [e2]
    exact hp.filter _
end Go.Proofs.Ytdkfmbammdmohaa.PPolicyCosts

namespace Go.Proofs.Ytdkfmbammdmohaa.PPolicyCosts
open Go.RowKit Go.Proofs.YtdkfmbammdmohaaW.PrintWords Go.Proofs.YtdkfmbammdmohaaW.PrintLast Go.Proofs.YtdkfmbammdmohaaW.PrintMore
open Go.Proofs.YtdkfmbammdmohaaM Go.Proofs.YtdkfmbammdmohaaS
set_option linter.unusedVariables false
set_option linter.unusedSimpArgs false

theorem mn_min (a b : Int) : mn a b ≤ a ∧ mn a b ≤ b ∧ (mn a b = a ∨ mn a b = b) := by unfold mn; split <;> omega
/-- What the next tick is. -/
theorem nextT_facts (t : Int) : ∀ (l : List S73) (x : Int), t < x →
    t < nextT l t x ∧ nextT l t x ≤ x ∧ (∀ u ∈ l, t < u.f1 → nextT l t x ≤ u.f1) ∧ (∀ u ∈ l, t < u.f2 → nextT l t x ≤ u.f2)
  | [], x, h => ⟨h, Int.le_refl _, fun u hu => (by cases hu), fun u hu => (by cases hu)⟩
  | u :: l, x, h => by
    have e : nextT (u :: l) t x = nextT l t (let c := if u.f1 > t then mn x u.f1 else x; if u.f2 > t then mn c u.f2 else c) := rfl
    rw [e]
    generalize hy : (let c := if u.f1 > t then mn x u.f1 else x; if u.f2 > t then mn c u.f2 else c) = y
    have hb : t < y ∧ y ≤ x ∧ (t < u.f1 → y ≤ u.f1) ∧ (t < u.f2 → y ≤ u.f2) := by
      have m1 := mn_min x u.f1
      have m2 := mn_min (mn x u.f1) u.f2
      have m3 := mn_min x u.f2
      by_cases h1 : u.f1 > t <;> by_cases h2 : u.f2 > t <;> simp only [h1, h2, if_true, if_false] at hy <;> omega
    obtain ⟨a, b, c, d⟩ := nextT_facts t l y hb.1
    refine ⟨a, by omega, fun v hv hlt => ?_, fun v hv hlt => ?_⟩
    · rcases List.mem_cons.1 hv with rfl | hv
      · have := hb.2.2.1 hlt; omega
      · exact c v hv hlt
    · rcases List.mem_cons.1 hv with rfl | hv
      · have := hb.2.2.2 hlt; omega
      · exact d v hv hlt
theorem end_ge (l : List S73) : ∀ u ∈ l, u.f2 ≤ endOf l := by
  refine snoc_ind (P := fun l => ∀ u ∈ l, u.f2 ≤ endOf l) (fun u hu => (by cases hu)) ?_ l
  intro l v ih u hu
  rw [endOf_snoc]
  have : endOf l ≤ mx (endOf l) v.f2 ∧ v.f2 ≤ mx (endOf l) v.f2 := by unfold mx; split <;> omega
  rw [List.mem_append] at hu
  rcases hu with hu | hu
  · have := ih u hu; omega
  · simp at hu; subst hu; exact this.2

theorem evict_ev (l : List S73) (hold win limit r t : Int) (h0 : 0 ≤ limit) : ∀ (q : List S98) (N : Int) (held : List S107), held.Perm (q.map sw) → q.Pairwise lexQ → q.length < 8796093022208 →
    (∀ held' : List S107, held'.Perm ((evictX hold t limit N q).2.map sw) → Ev (fun k => polderref31_most.l0 k l limit (wrap64 (evictX hold t limit N q).1) held' t hold win) r) →
    Ev (fun k => polderref31_most.l3 k l limit (wrap64 N) held t hold win) r
  | [], N, held, hp, hs, hlen, H => by
    have hh : held = [] := List.perm_nil.1 hp
    subst hh
    refine Ev.step (fun k => ?_) (H [] hp)
    rw [polderref31_most.l3, if_neg (by simp; omega)]
    rfl
  | x :: q, N, held, hp, hs, hlen, H => by
    have hhl : held.length = (x :: q).length := by rw [hp.length_eq, List.length_map]
    by_cases hgt : limit < ((x :: q).length : Int)
    · rw [evictX, if_pos hgt] at H
      have hlen1 : (x :: q).length = q.length + 1 := rfl
      refine Ev.step (f := fun k => polderref31_most.l4 k l limit (wrap64 N) held t 0 1 hold win) (fun k => ?_) ?_
      · rw [polderref31_most.l3, if_pos (by rw [hhl]; omega)]
      · refine l4_ev l hold win limit r t N held (by omega) ?_ (held.length - 1) 1 0 (by omega) (by omega) ?_
        · intro a ha hmin
          have hax : held[a] = sw x := by
            have hm := hp.mem_iff.1 (List.getElem_mem ha)
            rw [List.mem_map] at hm
            obtain ⟨y, hy, hey⟩ := hm
            rcases List.mem_cons.1 hy with rfl | hy
            · exact hey.symm
            · exfalso
              have hlex := (List.pairwise_cons.1 hs).1 y hy
              have hxm : sw x ∈ held := hp.mem_iff.2 (by rw [List.map_cons]; exact List.mem_cons_self ..)
              obtain ⟨k, hk, hke⟩ := List.getElem_of_mem hxm
              refine hmin k hk ?_
              rw [hke, ← hey]
              exact hlex
          have hp2 : (held.eraseIdx a).Perm (q.map sw) := by
            have p1 := perm_eraseIdx held a ha
            rw [hax] at p1
            exact (p1.symm.trans hp).cons_inv
          have e1 : held[a].f1 = x.f0 := by rw [hax]; rfl
          rw [e1]
          exact evict_ev l hold win limit r t h0 q _ _ hp2 (List.pairwise_cons.1 hs).2 (by omega) H
        · intro k hk hk1 hl2
          have : k = 0 := by omega
          subst this
          unfold lessI at hl2
          omega
    · rw [evictX, if_neg hgt] at H
      refine Ev.step (fun k => ?_) (H held hp)
      rw [polderref31_most.l3, if_neg (by rw [hhl]; omega)]

/-- Behind a tick: what the code has in its queue, and what the reference holds. -/
structure Sim (l : List S73) (ss : List S90) (hold win limit t N : Int) (q : List S98) (held : List S107) : Prop where
  run : runX hold win limit (0, []) ss = runX hold win limit (N, q) (ss.filter (fun s => decide (t < s.f0)))
  perm : held.Perm (q.map sw)
  sort : q.Pairwise lexQ
  old : ∀ x ∈ q, x.f0 ≤ t
  nod : (q.map (·.f1)).Nodup
  len : (q.length : Int) ≤ limit
  act : ∀ u ∈ l, u.f1 ≤ t → t < u.f2 → u.f0 ∉ q.map (·.f1)
theorem evictX_sub (hold a limit : Int) : ∀ (q : List S98) (N : Int), (evictX hold a limit N q).2.Sublist q
  | [], N => List.Sublist.refl _
  | x :: q, N => by
    rw [evictX]
    split
    · exact (evictX_sub hold a limit q _).trans (List.sublist_cons_self x q)
    · exact List.Sublist.refl _
theorem evictX_len (hold a limit : Int) (h0 : 0 ≤ limit) : ∀ (q : List S98) (N : Int), (((evictX hold a limit N q).2.length : Nat) : Int) ≤ limit
  | [], N => by simp [evictX]; omega
  | x :: q, N => by
    rw [evictX]
    split
    · exact evictX_len hold a limit h0 q _
    · simp only; omega

theorem ends_sorted {l : List S73} (hl : LF l) (t' : Int) (E : List S90) (hE : E.Perm ((l.filter (fun u => u.f2 == t')).map (fun u => (⟨t', false, u.f0⟩ : S90)))) (hs : SortedS E) :
    (E.map wQ).Pairwise lexQ ∧ ((E.map wQ).map (·.f1)).Nodup ∧ ∀ x ∈ E.map wQ, x.f0 = t' ∧ ∃ u ∈ l, u.f2 = t' ∧ u.f0 = x.f1 := by
  have hmem : ∀ s ∈ E, s.f0 = t' ∧ s.f1 = false ∧ ∃ u ∈ l, u.f2 = t' ∧ u.f0 = s.f2 := by
    intro s hsE
    have := hE.mem_iff.1 hsE
    rw [List.mem_map] at this
    obtain ⟨u, hu, rfl⟩ := this
    rw [List.mem_filter] at hu
    exact ⟨rfl, rfl, u, hu.1, by simpa using hu.2, rfl⟩
  have hnd : ((E.map wQ).map (·.f1)).Nodup := by
    have h1 : ((E.map wQ).map (·.f1)) = E.map (·.f2) := by rw [List.map_map]; rfl
    rw [h1]
    have h2 := hE.map (·.f2)
    rw [List.map_map] at h2
    have h3 : (l.filter (fun u => u.f2 == t')).map ((fun s : S90 => s.f2) ∘ fun u => (⟨t', false, u.f0⟩ : S90)) = (l.filter (fun u => u.f2 == t')).map (·.f0) := rfl
    rw [h3] at h2
    rw [h2.nodup_iff]
    unfold List.Nodup
    rw [List.pairwise_map]
    refine List.Pairwise.imp_of_mem ?_ (List.Pairwise.sublist List.filter_sublist hl.dis)
    intro a b ha hb hab he
    have ha2 := (List.mem_filter.1 ha)
    have hb2 := (List.mem_filter.1 hb)
    have a3 : a.f2 = t' := by simpa using ha2.2
    have b3 : b.f2 = t' := by simpa using hb2.2
    have := hab he
    have := hl.pos b hb2.1
    omega
  refine ⟨?_, hnd, ?_⟩
  · rw [List.pairwise_map]
    have h1 : ((E.map wQ).map (·.f1)) = E.map (·.f2) := by rw [List.map_map]; rfl
    rw [h1] at hnd
    unfold List.Nodup at hnd
    rw [List.pairwise_map] at hnd
    refine List.Pairwise.imp_of_mem ?_ (hs.and hnd)
    intro a b ha hb hab
    obtain ⟨hab, hne⟩ := hab
    obtain ⟨a1, a2, _⟩ := hmem a ha
    obtain ⟨b1, b2, _⟩ := hmem b hb
    rw [lt_cmpStep, a1, a2, b1, b2] at hab
    simp at hab
    exact .inr ⟨by simp only [wQ]; omega, by simp only [wQ]; omega⟩
  · intro x hx
    rw [List.mem_map] at hx
    obtain ⟨s, hs1, rfl⟩ := hx
    obtain ⟨h1, h2, h3⟩ := hmem s hs1
    exact ⟨h1, h3⟩

theorem tick_ev {l : List S73} {ss : List S90} (hl200 : l.length ≤ 200) (hl : LF l) (hp : ss.Perm (stepsOf l)) (hs : SortedS ss) (hold win limit r : Int) (h0 : 0 ≤ limit) (h1024 : limit ≤ 1024)
    (t t' N : Int) (q : List S98) (held : List S107) (hS : Sim l ss hold win limit t N q held) (ht : t < t') (n1 : ∀ u ∈ l, t < u.f1 → t' ≤ u.f1) (n2 : ∀ u ∈ l, t < u.f2 → t' ≤ u.f2)
    (H : ∀ N' q' held', Sim l ss hold win limit t' N' q' held' → Ev (fun k => polderref31_most.l0 k l limit (wrap64 N') held' t' hold win) r) :
    Ev (fun k => polderref31_most.l1 k l limit (wrap64 N) held t' 0 hold win) r := by
  obtain ⟨E, hF, hE, hEs⟩ := tick_split hl hp hs t t' ht n1 n2
  obtain ⟨N1, q1, h1, b1, b2, p1, s1, m1⟩ := begin_sim hold win t' (l.filter (fun u => u.f1 == t')) N q held hS.perm hS.nod
  obtain ⟨es, en, em⟩ := ends_sorted hl t' E hE hEs
  have hql : (q1.length : Int) ≤ limit := by have := s1.length_le; have := hS.len; omega
  have hhl : held.length = q.length := by rw [hS.perm.length_eq, List.length_map]
  have hh1 : h1.length = q1.length := by rw [p1.length_eq, List.length_map]
  have hlim := hS.len
  -- what ends at this tick was not held
  have hoff : ∀ x ∈ E.map wQ, x.f1 ∉ q1.map (·.f1) := by
    intro x hx h
    obtain ⟨_, u, hu, hu2, hu0⟩ := em x hx
    have hpos := hl.pos u hu
    have hle : u.f1 ≤ t := by
      by_cases h3 : t < u.f1
      · have := n1 u hu h3; omega
      · omega
    exact hS.act u hu hle (by omega) ((s1.map _).subset (by rw [hu0]; exact h))
  have hsort : (q1 ++ E.map wQ).Pairwise lexQ := by
    rw [List.pairwise_append]
    refine ⟨List.Pairwise.sublist s1 hS.sort, es, fun a ha b hb => ?_⟩
    have := hS.old a (s1.subset ha)
    have := (em b hb).1
    exact .inl (by omega)
  have hnod : ((q1 ++ E.map wQ).map (·.f1)).Nodup := by
    rw [List.map_append, List.nodup_append]
    refine ⟨List.Nodup.sublist (s1.map _) hS.nod, en, fun a ha b hb hab => ?_⟩
    rw [List.mem_map] at hb
    obtain ⟨x, hx, rfl⟩ := hb
    exact hoff x hx (hab ▸ ha)
  have hElen : E.length ≤ l.length := by rw [hE.length_eq, List.length_map]; exact List.length_filter_le _ _
  -- the reference's loops
  have e1 := l1_ev l hl200 hold win limit r t' l.length 0 (by omega) N held (by omega)
  rw [List.drop_zero, b2] at e1
  refine e1 ?_
  have e2 := l2_ev l hl200 hold win limit r t' N1 l.length 0 (by omega) h1 (by have := s1.length_le; omega)
  rw [List.drop_zero] at e2
  refine e2 ?_
  have hperm : (h1 ++ (l.filter (fun u => u.f2 == t')).map (fun u => (⟨u.f0, t'⟩ : S107))).Perm ((q1 ++ E.map wQ).map sw) := by
    rw [List.map_append]
    refine p1.append ?_
    have h2 := hE.map (fun s => sw (wQ s))
    have h3 : ((l.filter (fun u => u.f2 == t')).map (fun u => (⟨t', false, u.f0⟩ : S90))).map (fun s => sw (wQ s)) = (l.filter (fun u => u.f2 == t')).map (fun u => (⟨u.f0, t'⟩ : S107)) := by rw [List.map_map]; rfl
    have h4 : (E.map wQ).map sw = E.map (fun s => sw (wQ s)) := by rw [List.map_map]; rfl
    rw [h3] at h2
    rw [h4]
    exact h2.symm
  refine evict_ev l hold win limit r t' h0 (q1 ++ E.map wQ) N1 _ hperm hsort (by rw [List.length_append, List.length_map]; have := s1.length_le; omega) ?_
  intro held' hp'
  refine H _ _ held' ⟨?_, hp', ?_, ?_, ?_, ?_, ?_⟩
  · rw [hS.run, hF, runX_begins, b1]
    refine (runX_ends hold win limit t' _ ?_ E ?_ N1 q1 hql)
    · intro y hy
      have := (List.mem_filter.1 hy).2
      simpa using this
    · intro y hy
      have := hE.mem_iff.1 hy
      rw [List.mem_map] at this
      obtain ⟨u, hu, rfl⟩ := this
      exact ⟨rfl, rfl⟩
  · exact List.Pairwise.sublist (evictX_sub _ _ _ _ _) hsort
  · intro x hx
    have := (evictX_sub _ _ _ _ _).subset hx
    rw [List.mem_append] at this
    rcases this with h | h
    · have := hS.old x (s1.subset h); omega
    · have := (em x h).1; omega
  · exact List.Nodup.sublist ((evictX_sub _ _ _ _ _).map _) hnod
  · exact evictX_len hold t' limit h0 _ _
  · intro u hu h1u h2u h
    have h3 := ((evictX_sub hold t' limit (q1 ++ E.map wQ) N1).map (·.f1)).subset h
    rw [List.map_append, List.mem_append] at h3
    rcases h3 with h3 | h3
    · by_cases h4 : u.f1 = t'
      · exact m1 u (List.mem_filter.2 ⟨hu, by simpa using h4⟩) h3
      · have hle : u.f1 ≤ t := by
          by_cases h5 : t < u.f1
          · have := n1 u hu h5; omega
          · omega
        exact hS.act u hu hle (by omega) ((s1.map _).subset h3)
    · rw [List.mem_map] at h3
      obtain ⟨x, hx, hxe⟩ := h3
      obtain ⟨_, v, hv, hv2, hv0⟩ := em x hx
      have hne : u ≠ v := by rintro rfl; omega
      have hpv := hl.pos v hv
      rcases hl.apart hu hv (by rw [hv0, hxe]) hne with h6 | h6 <;> omega

theorem most_ev {l : List S73} {ss : List S90} (hl200 : l.length ≤ 200) (hl : LF l) (hp : ss.Perm (stepsOf l)) (hs : SortedS ss) (hold win limit : Int) (h0 : 0 ≤ limit) (h1024 : limit ≤ 1024) : ∀ (d : Nat) (t N : Int) (q : List S98) (held : List S107), (endOf l - t).toNat ≤ d →
    Sim l ss hold win limit t N q held → Ev (fun k => polderref31_most.l0 k l limit (wrap64 N) held t hold win) (mostQ hold win limit (endOf l) ss) := by
  have hlast : ∀ t N q held, Sim l ss hold win limit t N q held → ¬ t < endOf l → Ev (fun k => polderref31_most.l0 k l limit (wrap64 N) held t hold win) (mostQ hold win limit (endOf l) ss) := by
    intro t N q held hS hlt
    have hhl : held.length = q.length := by rw [hS.perm.length_eq, List.length_map]
    have hlim := hS.len
    have hnil : ss.filter (fun s => decide (t < s.f0)) = [] := by
      rw [List.filter_eq_nil_iff]
      intro s hsm
      have := hp.mem_iff.1 hsm
      unfold stepsOf at this
      rw [List.mem_flatMap] at this
      obtain ⟨u, hu, hus⟩ := this
      have h1 := end_ge l u hu
      have h2 := hl.pos u hu
      simp at hus
      rcases hus with rfl | rfl <;> simp <;> omega
    have hrun := hS.run
    rw [hnil, runX] at hrun
    rw [mostQ_is, hrun]
    refine Ev.step (f := fun k => (polderref31_end.f k l).bind fun t307 => (if t < t307 then ((polderref31_after.f k l t).bind fun t308 => (polderref31_most.l1 k l limit (wrap64 N) held t308 0 hold win)) else (polderref31_most.l5 k l (wrap64 N) held 0 hold win))) (fun k => by rw [polderref31_most.l0]) (Ev.bind (end_ev l hl200) ?_)
    refine Ev.congr (fun k => by rw [if_neg hlt]) ?_
    have h5 := l5_ev l hl200 hold win held (by omega) held.length 0 (by omega) N
    rw [List.drop_zero] at h5
    have hsum : tailS (endOf l) hold held = tailX (endOf l) hold q := by
      have h6 : tailS (endOf l) hold held = tailS (endOf l) hold (q.map sw) := sum_perm (hS.perm.map _)
      rw [h6]
      unfold tailS tailX
      rw [List.map_map]
      rfl
    rw [hsum] at h5
    exact h5
  intro d
  induction d with
  | zero => intro t N q held hd hS; exact hlast t N q held hS (by omega)
  | succ d ih =>
    intro t N q held hd hS
    by_cases hlt : t < endOf l
    · obtain ⟨f1, f2, f3, f4⟩ := nextT_facts t l (endOf l) hlt
      refine Ev.step (f := fun k => (polderref31_end.f k l).bind fun t307 => (if t < t307 then ((polderref31_after.f k l t).bind fun t308 => (polderref31_most.l1 k l limit (wrap64 N) held t308 0 hold win)) else (polderref31_most.l5 k l (wrap64 N) held 0 hold win))) (fun k => by rw [polderref31_most.l0]) (Ev.bind (end_ev l hl200) ?_)
      refine Ev.congr (fun k => by rw [if_pos hlt]) (Ev.bind (after_ev l hl200 t) ?_)
      exact tick_ev hl200 hl hp hs hold win limit _ h0 h1024 t (nextT l t (endOf l)) N q held hS f1 f3 f4 (fun N' q' held' hS' => ih _ N' q' held' (by omega) hS')
    · exact hlast t N q held hS hlt
/-- The reference's cost of a number of waiting pages. -/
theorem most_is {l : List S73} {ss : List S90} {hold win : Int} (hb : bothE l hold win = 0) (limit : Int) (h0 : 0 ≤ limit) (h1024 : limit ≤ 1024) (hp : ss.Perm (stepsOf l)) (hs : SortedS ss) :
    ∃ k, polderref31_most.f k l hold win limit = some (mostQ hold win limit (endOf l) ss) := by
  obtain ⟨hck, b0, b1, w0, w1⟩ := bothE_zero hb
  obtain ⟨hl, c2, c3⟩ := chk_zero hck
  have hlf := lf_of c2 c3
  have hall : ss.filter (fun s => decide ((-1 : Int) < s.f0)) = ss := by
    rw [List.filter_eq_self]
    intro s hsm
    have := hp.mem_iff.1 hsm
    unfold stepsOf at this
    rw [List.mem_flatMap] at this
    obtain ⟨u, hu, hus⟩ := this
    have h2 := hlf.pos u hu
    simp at hus
    rcases hus with rfl | rfl <;> simp <;> omega
  have h := most_ev hl hlf hp hs hold win limit h0 h1024 (endOf l - (-1)).toNat (-1) 0 [] [] (Nat.le_refl _) ⟨by rw [hall], List.Perm.refl _, List.Pairwise.nil, fun x hx => (by cases hx), List.nodup_nil, (by simp; omega), fun u hu h3 => (by have := hlf.pos u hu; omega)⟩
  have e0 : wrap64 0 = 0 := by unfold wrap64; omega
  rw [e0] at h
  exact Ev.rounds (g := fun k => polderref31_most.f k l hold win limit) h
end Go.Proofs.Ytdkfmbammdmohaa.PPolicyCosts
